/- Texts of the proofs of StampMerges, merged (Raw, RawFn). -/
import Derived.Laws.IdiomCopy
import Derived.Test.YtnhdjaegkccmaaaGf8a1be9d
import Derived.Test.YtnhdjaegkccmaaaG6fd917f9
import Derived.Test.YtnhdjaegkccmaaaG5069bfb7
namespace Go.Proofs.Ytnhdjaegkccmaaa
open Go.RowKit
set_option linter.unusedVariables false
/-- block g holds the elements xs (k cells each), and behind them rest -/
def RowAt (w : World) (g : Nat) (e : TypeId) (xs : List (List Value)) (rest : List Value) : Prop := Blk w g e (xs.flatten ++ rest).toArray
/-- each of k cells -/
def Wide (k : Nat) (xs : List (List Value)) : Prop := ∀ x ∈ xs, x.length = k ∧ ∀ u ∈ x, u.oneCell' = true
section
variable {k : Nat} {xs : List (List Value)}
theorem Wide.tail {x : List Value} (h : Wide k (x :: xs)) : Wide k xs := fun y hy => h y (List.mem_cons_of_mem _ hy)
theorem Wide.len (h : Wide k xs) : xs.flatten.length = xs.length * k := by
  induction xs with
  | nil => simp
  | cons x xs ih => rw [List.flatten_cons, List.length_append, ih h.tail, (h x (by simp)).1, List.length_cons, Nat.add_mul]; omega
theorem Wide.at_ (h : Wide k xs) (j : Nat) (hj : j < xs.length) (i : Nat) (hi : i < k) (rest : List Value) : (xs.flatten ++ rest)[j * k + i]? = xs[j][i]? := by
  have hl := h.len
  have hlt : j * k + i < xs.flatten.length := by
    rw [hl]
    have := Nat.mul_le_mul_right k (show j + 1 ≤ xs.length from hj)
    rw [Nat.add_mul] at this
    omega
  rw [List.getElem?_append_left hlt]
  clear hlt hl
  induction xs generalizing j with
  | nil => simp at hj
  | cons x xs ih =>
    have hx := (h x (by simp)).1
    rw [List.flatten_cons]
    cases j with
    | zero => rw [Nat.zero_mul, Nat.zero_add, List.getElem?_append_left (by omega)]; rfl
    | succ j =>
      rw [List.getElem?_append_right (by rw [hx, Nat.add_mul]; omega), hx, show (j + 1) * k + i - k = j * k + i by rw [Nat.add_mul]; omega]
      exact ih h.tail j (by simpa using hj)
theorem Wide.flat_set (h : Wide k xs) (j : Nat) (hj : j < xs.length) (x : List Value) (hx : x.length = k) (rest : List Value) :
    (xs.set j x).flatten ++ rest = (xs.flatten ++ rest).take (j * k) ++ x ++ (xs.flatten ++ rest).drop (j * k + k) := by
  induction xs generalizing j with
  | nil => simp at hj
  | cons y xs ih =>
    have hy := (h y (by simp)).1
    cases j with
    | zero => simp [hy]
    | succ j =>
      have := ih h.tail j (by simpa using hj)
      rw [List.set_cons_succ, List.flatten_cons, List.append_assoc, this, List.flatten_cons, List.append_assoc y]
      rw [show (j + 1) * k = y.length + j * k by rw [hy, Nat.add_mul]; omega, List.take_length_add_append, Nat.add_assoc, List.drop_length_add_append]
      simp only [List.append_assoc]
theorem Wide.flat_take (h : Wide k xs) (j : Nat) (hj : j ≤ xs.length) : xs.flatten.take (j * k) = (xs.take j).flatten := by
  induction xs generalizing j with
  | nil => simp
  | cons y xs ih =>
    have hy := (h y (by simp)).1
    cases j with
    | zero => simp
    | succ j =>
      rw [List.flatten_cons, List.take_succ_cons, List.flatten_cons, show (j + 1) * k = y.length + j * k by rw [hy, Nat.add_mul]; omega, List.take_length_add_append, ih h.tail j (by simpa using hj)]
end
section
variable {w w' : World} {g : Nat} {e : TypeId} {k : Nat} {xs : List (List Value)} {rest : List Value}
theorem RowAt.cell (h : RowAt w g e xs rest) (hw : Wide k xs) (j : Nat) (hj : j < xs.length) (i : Nat) (v : Value) (hv : xs[j][i]? = some v) : w.cell? ⟨g, j * k + i, none⟩ = some v := by
  have hi : i < k := by have := (List.getElem?_eq_some_iff.1 hv).1; rwa [(hw _ (List.getElem_mem hj)).1] at this
  have h' : Blk w g e (xs.flatten ++ rest).toArray := h
  rw [h'.cell, List.getElem?_toArray, hw.at_ j hj i hi rest, hv]
theorem RowAt.frozen (h : RowAt w g e xs rest) (i : Nat) : w.frozen? ⟨g, i, none⟩ = false := Blk.frozen (t := e) h i
theorem RowAt.chs (h : RowAt w g e xs rest) {S : Nat → Prop} (hc : Chs S w w') (hn : ¬ S g) : RowAt w' g e xs rest := Blk.chs (t := e) h hc hn
theorem RowAt.ext (h : RowAt w g e xs rest) (hc : Ext w w') : RowAt w' g e xs rest := h.chs (S := fun _ => False) (.of_ext hc) (fun e => e)
theorem RowAt.lt (h : RowAt w g e xs rest) : g < w.heap.size := Blk.lt (t := e) h
/-- a run of stores of single cells, as the walk spells it, is the row with one element more laid -/
def setRun : World → Nat → Nat → List Value → World
  | w, _, _, [] => w
  | w, g, o, v :: r => setRun (w.setCell ⟨g, o, none⟩ v) g (o + 1) r
theorem setRun_eq (g : Nat) (vs : List Value) : ∀ (w : World) (o : Nat), setRun w g o vs = w.setCells g o vs := by
  induction vs with
  | nil => intro w o; rfl
  | cons v r ih => intro w o; rw [setRun, World.setCells, ih]
theorem blk_setCells {t : TypeId} : ∀ (vs : List Value) (o : Nat) (w : World) (cur : Array Value), Blk w g t cur → o + vs.length ≤ cur.size →
    Blk (w.setCells g o vs) g t (cur.toList.take o ++ vs ++ cur.toList.drop (o + vs.length)).toArray
  | [], o, w, cur, h, _ => by
    show Blk w g t _
    simpa using h
  | v :: r, o, w, cur, h, hl => by
    have h2 := h.set_ o v
    simp only [List.length_cons] at hl
    have h5 := blk_setCells r (o + 1) (w.setCell ⟨g, o, none⟩ v) _ h2 (by simp; omega)
    rw [World.setCells]
    have hlc : o < cur.toList.length := by rw [Array.length_toList]; omega
    have : (cur.setIfInBounds o v).toList.take (o + 1) ++ r ++ (cur.setIfInBounds o v).toList.drop (o + 1 + r.length) = cur.toList.take o ++ (v :: r) ++ cur.toList.drop (o + (v :: r).length) := by
      rw [Array.toList_setIfInBounds, List.take_set, List.drop_set_of_lt (by omega), List.length_cons, show o + 1 + r.length = o + (r.length + 1) by omega]
      congr 1
      rw [List.take_succ_eq_append_getElem hlc, List.set_append_right _ _ (by rw [List.length_take]; omega)]
      have : o - (cur.toList.take o).length = 0 := by rw [List.length_take]; omega
      rw [this]
      simp
    rw [this] at h5
    exact h5
theorem chs_setCells : ∀ (vs : List Value) (o : Nat) (w : World), Chs (fun i => i = g) w (w.setCells g o vs)
  | [], _, w => Chs.refl _ _
  | v :: r, o, w => by
    rw [World.setCells]
    exact ((Chs.refl (fun i => i = g) w).setCell (p := ⟨g, o, none⟩) (.inl rfl) v).trans (chs_setCells r (o + 1) _)
theorem RowAt.put (h : RowAt w g e xs rest) (hw : Wide k xs) (j : Nat) (hj : j < xs.length) (x : List Value) (hx : x.length = k) : RowAt (setRun w g (j * k) x) g e (xs.set j x) rest := by
  have hle : j * k + k ≤ xs.flatten.length := by
    rw [hw.len]
    have := Nat.mul_le_mul_right k (show j + 1 ≤ xs.length from hj)
    rwa [Nat.add_mul, Nat.one_mul] at this
  have := blk_setCells x (j * k) w _ h (by rw [List.size_toArray, List.length_append]; omega)
  rw [setRun_eq]
  unfold RowAt
  rw [hw.flat_set j hj x hx rest]
  simpa [hx] using this
end
theorem zeroCells_list (z : Array Value) (n : Nat) : (Builtin.zeroCells z n).toList = (List.replicate n z.toList).flatten := by
  induction n with
  | zero => simp [Builtin.zeroCells]
  | succ n ih =>
    rw [List.replicate_succ', List.flatten_append, ← ih]
    simp only [Builtin.zeroCells, Array.toList_map, Array.toList_range, List.flatten_cons, List.flatten_nil, List.append_nil]
    rw [Nat.add_mul, Nat.one_mul, List.range_add, List.map_append, List.map_map]
    congr 1
    apply List.ext_getElem
    · simp
    · intro i h1 h2
      simp at h1 h2
      simp [Nat.mod_eq_of_lt h1, h1]
theorem run_clear {P : Program} {w : World} {t e : TypeId} {z : Value} {g : Nat} {xs : List (List Value)} {rest : List Value} {k : Nat} (ht : P.underlying t = some (.slice e)) (hv : ∀ w, (zeroValue e).run P w = .ok z w) (hz : z.cells.size = k) (h1 : ∀ u ∈ z.cells.toList, u.oneCell' = true)
    (h : RowAt w g e xs rest) (hw : Wide k xs) (i c : Nat) (hi : i < xs.length) (ty : TypeId) :
    (Builtin.clear_ #[t] ty #[.slice (some ⟨g, i * k, none⟩) (xs.length - i) c]).run P w = .ok (.tuple #[]) (w.setCells g (i * k) (List.replicate (xs.length - i) z.cells.toList).flatten) ∧
    RowAt (w.setCells g (i * k) (List.replicate (xs.length - i) z.cells.toList).flatten) g e (xs.take i ++ List.replicate (xs.length - i) z.cells.toList) rest := by
  have hzw : Wide k (List.replicate (xs.length - i) z.cells.toList) := fun y hy => by
    rw [List.eq_of_mem_replicate hy]
    exact ⟨by simpa using hz, h1⟩
  have hl : (List.replicate (xs.length - i) z.cells.toList).flatten.length = (xs.length - i) * k := by rw [hzw.len, List.length_replicate]
  have hmul : i * k + (xs.length - i) * k = xs.length * k := by rw [← Nat.add_mul]; congr 1; omega
  have hb : Blk w g e (xs.flatten ++ rest).toArray := h
  have hfl := hw.len
  constructor
  · have hst := run_storeCells_cells (P := P) g (i * k) (List.replicate (xs.length - i) z.cells.toList).flatten 0 w
      (fun j hj => by rw [hl] at hj; rw [hb.cell, List.getElem?_toArray, Nat.add_zero, List.getElem?_eq_getElem (by rw [List.length_append]; omega)]; rfl)
      (fun j hj => hb.frozen _)
      (fun u hu => by
        obtain ⟨y, hy, hu⟩ := List.mem_flatten.1 hu
        exact (hzw y hy).2 u hu)
    simp only [Nat.add_zero] at hst
    obtain ⟨m, hm⟩ : ∃ m, xs.length - i = m + 1 := ⟨xs.length - i - 1, by omega⟩
    rw [hm] at hst ⊢
    simp [Builtin.clear_, run_underlying ht, hv, zeroCells_list, hst]
  · have := blk_setCells (List.replicate (xs.length - i) z.cells.toList).flatten (i * k) w _ hb (by rw [hl, List.size_toArray, List.length_append]; omega)
    unfold RowAt
    rw [hl] at this
    have e : (xs.take i ++ List.replicate (xs.length - i) z.cells.toList).flatten ++ rest = (xs.flatten ++ rest).take (i * k) ++ (List.replicate (xs.length - i) z.cells.toList).flatten ++ (xs.flatten ++ rest).drop (i * k + (xs.length - i) * k) := by
      rw [List.flatten_append, ← hw.flat_take i (by omega), List.take_append_of_le_length (by omega), hmul, ← hfl, List.drop_left]
    rw [e]
    simpa using this
end Go.Proofs.Ytnhdjaegkccmaaa
namespace Go.Proofs.Ytnhdjaegkccmaaa
open Go.RowKit
set_option linter.unusedVariables false
theorem enters_fn {P : Program} {f : FuncId} {fn : Func} {c : Code} (hf : P.funcs[f]? = some fn) (hname : (fn.name == "runtime.NumGoroutine") = false) (hb : fn.body = some c) : ∀ args w, (callFunc f args).run P w = .ok (.enter f args) w := by
  intro args w
  have h1 : fn.name ≠ "runtime.NumGoroutine" := by simpa using hname
  simp [callFunc, hf, h1, hb, mark]
theorem add_plus (a : Addr) (m i : Nat) (hi : 0 < i) : a.add (m + i) = ⟨(a.add m).block, (a.add m).off + i, none⟩ := by
  unfold Addr.add
  rw [if_neg (by omega)]
  by_cases h : m = 0
  · subst h; simp
  · rw [if_neg h]; simp [Nat.add_assoc]
theorem chs_run {a b : World} {g : Nat} (h : Chs (fun i => i = g) a b) (o : Nat) (x : List Value) : Chs (fun i => i = g) a (setRun b g o x) := by
  rw [setRun_eq]
  exact h.trans (chs_setCells _ _ _)
section
variable {p : List Value → Bool} {xs ys : List (List Value)} {i j : Nat}
end
theorem own_rowAt {w : World} {base k : Nat} {e : TypeId} {v : Value} {xs : List (List Value)} (h : w.ownsRow base e k v xs.length xs.flatten) (hw : Wide k xs) :
    (v = .slice none 0 0 ∧ xs = []) ∨ ∃ g cap rest, v = .slice (some ⟨g, 0, none⟩) xs.length cap ∧ base ≤ g ∧ g < w.heap.size ∧ xs.length ≤ cap ∧ cap ≤ maxLen ∧ RowAt w g e xs rest ∧ xs.flatten.length + rest.length = cap * k := by
  rcases h.2 with ⟨rfl, h0⟩ | ⟨g, cap, cur, rfl, hb, hg, hc, hm, hs, ht⟩
  · exact .inl ⟨rfl, List.eq_nil_of_length_eq_zero h0⟩
  · refine .inr ⟨g, cap, cur.toList.drop (xs.length * k), rfl, hb, (Array.getElem?_eq_some_iff.1 hg).1, hc, hm, ?_, ?_⟩
    · unfold RowAt Blk
      rw [hg]
      congr 2
      rw [← ht, List.take_append_drop]
    · have hle : xs.length * k ≤ cap * k := Nat.mul_le_mul_right k hc
      have hcl : cur.toList.length = cap * k := by rw [Array.length_toList]; exact hs
      rw [hw.len, List.length_drop, hcl]
      omega
theorem rowAt_own {w : World} {base g cap k : Nat} {e : TypeId} {xs : List (List Value)} {rest : List Value} (h : RowAt w g e xs rest) (hw : Wide k xs) (hb : base ≤ g) (hc : xs.length ≤ cap) (hm : cap ≤ maxLen) (hs : xs.flatten.length + rest.length = cap * k) :
    w.ownsRow base e k (.slice (some ⟨g, 0, none⟩) xs.length cap) xs.length xs.flatten := by
  refine ⟨hw.len, .inr ⟨g, cap, _, rfl, hb, h, hc, hm, by rw [List.size_toArray, List.length_append, hs], ?_⟩⟩
  rw [← hw.len]
  simp
theorem RowAt.split {w : World} {g : Nat} {e : TypeId} {xs ys : List (List Value)} {rest : List Value} (h : RowAt w g e (xs ++ ys) rest) : RowAt w g e xs (ys.flatten ++ rest) := by
  unfold RowAt at h ⊢
  rwa [List.flatten_append, List.append_assoc] at h
/-- of what was there, only v's own block has turned -/
abbrev ChsV (v : Value) (a b : World) : Prop := Chs (fun i => v.ownBlock = some i) a b
end Go.Proofs.Ytnhdjaegkccmaaa
