/- Texts of the proofs of TopoOnce, TopoTells, merged (SortW). -/
import Derived.Shelf.SlSortCmp.WholeK
import Derived.Test.YtaedgbkeiankcaaG64eb9ef8
import Derived.Test.YtaedgbkeiankcaaGca2bd920
import Derived.Test.YtaedgbkeiankcaaGff33e446
import Derived.Test.YtaedgbkeiankcaaG132b0fe3
namespace Go.Proofs.Ytaedgbkeiankcaa
open Go.RowKit
set_option linter.unusedVariables false
set_option linter.unusedSectionVars false
section
variable {α : Type} [Inhabited α] {enc : α → List Value} {k : Nat} {w : World} {blk : Nat} {e : TypeId} {l : List α} {rest : List Value}
theorem wide_map (hk : ∀ x, (enc x).length = k) (h1 : ∀ x, ∀ v ∈ enc x, v.oneCell' = true) (l : List α) : Wide k (l.map enc) := by
  intro y hy
  obtain ⟨x, _, rfl⟩ := List.mem_map.1 hy
  exact ⟨hk x, h1 x⟩
theorem row_holds (hk : ∀ x, (enc x).length = k) (h1 : ∀ x, ∀ v ∈ enc x, v.oneCell' = true) (h : RowAt w blk e (l.map enc) rest) : Sort.HoldsK enc k w blk 0 l.toArray := by
  intro t ht
  rw [Sort.size_flatK, List.size_toArray] at ht
  have k0 : 0 < k := by rcases Nat.eq_zero_or_pos k with h | h; · subst h; simp at ht
                        · exact h
  have hj : t / k < l.length := Nat.div_lt_of_lt_mul (by rwa [Nat.mul_comm] at ht)
  have hi : t % k < k := Nat.mod_lt _ k0
  have hw := wide_map hk h1 l
  have hlen : (enc l[t / k]).length = k := hk _
  have e0 : t / k * k + t % k = t := by rw [Nat.mul_comm]; exact Nat.div_add_mod t k
  have hc := h.cell hw (t / k) (by simpa using hj) (t % k) ((enc l[t / k])[t % k]'(by omega)) (by simp)
  rw [e0] at hc
  rw [Sort.get_flatK _ _ _ _ (by simpa using ht), Nat.zero_add]
  refine ⟨?_, h.frozen _⟩
  rw [hc]
  simp [hj, hk, hi]
theorem putRowK_row (hk : ∀ x, (enc x).length = k) (h1 : ∀ x, ∀ v ∈ enc x, v.oneCell' = true) (h : RowAt w blk e (l.map enc) rest) (d : Array α) (hd : d.size = l.length) : RowAt (Sort.putRowK enc k w blk 0 d) blk e (d.toList.map enc) rest := by
  have hb : Blk w blk e ((l.map enc).flatten ++ rest).toArray := h
  unfold Blk at hb
  unfold RowAt Blk Sort.putRowK Sort.putRow Sort.mapBlock
  simp only [Array.getElem?_modify, if_true, hb, Option.map_some, Sort.onCells]
  congr 2
  have hw := wide_map hk h1 l
  have hw2 := wide_map hk h1 d.toList
  have hl := hw.len
  have hl2 := hw2.len
  rw [List.length_map] at hl hl2
  have hdl : d.toList.length = l.length := by rw [Array.length_toList, hd]
  rw [hdl] at hl2
  apply Array.ext_getElem?
  intro t
  rw [Sort.putCells, Array.getElem?_mapIdx, List.getElem?_toArray, List.getElem?_toArray, Sort.size_flatK]
  by_cases ht : t < d.size * k
  · have k0 : 0 < k := by rcases Nat.eq_zero_or_pos k with h | h; · subst h; simp at ht
                          · exact h
    have hj : t / k < d.size := Nat.div_lt_of_lt_mul (by rwa [Nat.mul_comm] at ht)
    have hi : t % k < k := Nat.mod_lt _ k0
    have e0 : t / k * k + t % k = t := by rw [Nat.mul_comm]; exact Nat.div_add_mod t k
    have hr := hw2.at_ (t / k) (by simpa using hj) (t % k) hi rest
    rw [e0] at hr
    rw [hr, List.getElem?_append_left (by rw [hl, ← hd]; exact ht), List.getElem?_eq_getElem (by rw [hl, ← hd]; exact ht)]
    simp only [Option.map_some, Nat.zero_le, true_and, Nat.zero_add, ht, if_true, Nat.sub_zero, id]
    rw [Sort.get_flatK _ _ _ _ ht, List.getElem_map, Array.getElem_toList, getElem!_pos d _ hj, getElem!_pos (enc d[t / k]) _ (by rw [hk]; exact hi), List.getElem?_eq_getElem (by rw [hk]; exact hi)]
  · have e1 : ((l.map enc).flatten ++ rest)[t]? = ((d.toList.map enc).flatten ++ rest)[t]? := by
      rw [hd] at ht
      rw [List.getElem?_append_right (by omega), List.getElem?_append_right (by omega), hl, hl2]
    rw [e1]
    have : ¬ (0 ≤ t ∧ t < 0 + d.size * k) := by omega
    simp only [this, if_false]
    cases ((d.toList.map enc).flatten ++ rest)[t]? <;> rfl
theorem sort_chs (d : Array α) (n : Nat) (os : Array Obj) : Chs (fun i => i = blk) w (sortWorldK enc k w blk 0 n d os) := by
  unfold sortWorldK Sort.putRowK Sort.putRow Sort.mapBlock Sort.grow Sort.ahead
  refine ⟨rfl, rfl, rfl, by simp, fun i hi hn => ?_⟩
  simp only [Array.getElem?_append, Array.size_modify, hi, if_true, Array.getElem?_modify]
  rw [if_neg (fun h => hn h.symm)]
theorem sort_row (hk : ∀ x, (enc x).length = k) (h1 : ∀ x, ∀ v ∈ enc x, v.oneCell' = true) (h : RowAt w blk e (l.map enc) rest) (d : Array α) (hd : d.size = l.length) (n : Nat) (os : Array Obj) : RowAt (sortWorldK enc k w blk 0 n d os) blk e (d.toList.map enc) rest := by
  have h2 : RowAt (Sort.ahead w n) blk e (l.map enc) rest := h
  have h3 := putRowK_row hk h1 h2 d hd
  have hlt := h3.lt
  unfold RowAt Blk at h3 ⊢
  unfold sortWorldK
  rw [Sort.heap_grow_old _ _ hlt]
  exact h3
end
/-- a list that rises by cmp -/
def Rises {α : Type} (lt : α → α → Bool) (l : List α) : Prop := l.Pairwise fun x y => lt y x = false
theorem rises_of {α : Type} [Inhabited α] (lt : α → α → Bool) (d : Array α) (h : Sort.SortedIn lt 0 d.size d) : Rises lt d.toList := by
  unfold Rises
  rw [List.pairwise_iff_getElem]
  intro i j hi hj hij
  have := h i j (Nat.zero_le _) hij (by simpa using hj)
  simp only [Array.length_toList] at hi hj
  rwa [getElem!_pos d i hi, getElem!_pos d j hj] at this
theorem perm_of {α : Type} [Inhabited α] (d d' : Array α) (h : Sort.PermIn 0 d.size d d') : d'.toList.Perm d.toList ∧ d'.size = d.size := by
  obtain ⟨h1, _, h3⟩ := h
  refine ⟨?_, h1⟩
  rw [Array.extract_eq_self_of_le (by omega), Array.extract_eq_self_of_le (by omega)] at h3
  exact h3
end Go.Proofs.Ytaedgbkeiankcaa
