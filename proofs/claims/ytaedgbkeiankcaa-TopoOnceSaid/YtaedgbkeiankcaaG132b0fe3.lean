/- Texts of the proofs of TopoOnce, TopoTells, merged (Raw, RawFn). -/
import Derived.Laws.IdiomCopy
import Derived.Test.YtaedgbkeiankcaaG64eb9ef8
import Derived.Test.YtaedgbkeiankcaaGca2bd920
import Derived.Test.YtaedgbkeiankcaaGff33e446
namespace Go.Proofs.Ytaedgbkeiankcaa
open Go.RowKit
set_option linter.unusedVariables false
/-- block g holds the elements xs (k cells each), and behind them rest -/
def RowAt (w : World) (g : Nat) (e : TypeId) (xs : List (List Value)) (rest : List Value) : Prop := Blk w g e (xs.flatten ++ rest).toArray
/-- each of k cells -/
def Wide (k : Nat) (xs : List (List Value)) : Prop := ∀ x ∈ xs, x.length = k ∧ ∀ u ∈ x, u.oneCell' = true
section
variable {k : Nat} {xs : List (List Value)}
theorem Wide.tail {x : List Value} (h : Wide k (x :: xs)) : Wide k xs := fun y hy => h y (List.mem_cons_of_mem _ hy)
theorem Wide.len (h : Wide k xs) : xs.flatten.length = xs.length * k := by
  induction xs with
  | nil => simp
  | cons x xs ih => rw [List.flatten_cons, List.length_append, ih h.tail, (h x (by simp)).1, List.length_cons, Nat.add_mul]; omega
theorem Wide.at_ (h : Wide k xs) (j : Nat) (hj : j < xs.length) (i : Nat) (hi : i < k) (rest : List Value) : (xs.flatten ++ rest)[j * k + i]? = xs[j][i]? := by
  have hl := h.len
  have hlt : j * k + i < xs.flatten.length := by
    rw [hl]
    have := Nat.mul_le_mul_right k (show j + 1 ≤ xs.length from hj)
    rw [Nat.add_mul] at this
    omega
  rw [List.getElem?_append_left hlt]
  clear hlt hl
  induction xs generalizing j with
  | nil => simp at hj
  | cons x xs ih =>
    have hx := (h x (by simp)).1
    rw [List.flatten_cons]
    cases j with
    | zero => rw [Nat.zero_mul, Nat.zero_add, List.getElem?_append_left (by omega)]; rfl
    | succ j =>
      rw [List.getElem?_append_right (by rw [hx, Nat.add_mul]; omega), hx, show (j + 1) * k + i - k = j * k + i by rw [Nat.add_mul]; omega]
      exact ih h.tail j (by simpa using hj)
theorem Wide.set (h : Wide k xs) (j : Nat) (x : List Value) (hx : x.length = k ∧ ∀ u ∈ x, u.oneCell' = true) : Wide k (xs.set j x) := by
  intro y hy
  rcases List.mem_or_eq_of_mem_set hy with hy | rfl
  · exact h y hy
  · exact hx
theorem Wide.flat_set (h : Wide k xs) (j : Nat) (hj : j < xs.length) (x : List Value) (hx : x.length = k) (rest : List Value) :
    (xs.set j x).flatten ++ rest = (xs.flatten ++ rest).take (j * k) ++ x ++ (xs.flatten ++ rest).drop (j * k + k) := by
  induction xs generalizing j with
  | nil => simp at hj
  | cons y xs ih =>
    have hy := (h y (by simp)).1
    cases j with
    | zero => simp [hy]
    | succ j =>
      have := ih h.tail j (by simpa using hj)
      rw [List.set_cons_succ, List.flatten_cons, List.append_assoc, this, List.flatten_cons, List.append_assoc y]
      rw [show (j + 1) * k = y.length + j * k by rw [hy, Nat.add_mul]; omega, List.take_length_add_append, Nat.add_assoc, List.drop_length_add_append]
      simp only [List.append_assoc]
theorem Wide.flat_take (h : Wide k xs) (j : Nat) (hj : j ≤ xs.length) : xs.flatten.take (j * k) = (xs.take j).flatten := by
  induction xs generalizing j with
  | nil => simp
  | cons y xs ih =>
    have hy := (h y (by simp)).1
    cases j with
    | zero => simp
    | succ j =>
      rw [List.flatten_cons, List.take_succ_cons, List.flatten_cons, show (j + 1) * k = y.length + j * k by rw [hy, Nat.add_mul]; omega, List.take_length_add_append, ih h.tail j (by simpa using hj)]
end
section
variable {w w' : World} {g : Nat} {e : TypeId} {k : Nat} {xs : List (List Value)} {rest : List Value}
theorem RowAt.cell (h : RowAt w g e xs rest) (hw : Wide k xs) (j : Nat) (hj : j < xs.length) (i : Nat) (v : Value) (hv : xs[j][i]? = some v) : w.cell? ⟨g, j * k + i, none⟩ = some v := by
  have hi : i < k := by have := (List.getElem?_eq_some_iff.1 hv).1; rwa [(hw _ (List.getElem_mem hj)).1] at this
  have h' : Blk w g e (xs.flatten ++ rest).toArray := h
  rw [h'.cell, List.getElem?_toArray, hw.at_ j hj i hi rest, hv]
theorem RowAt.frozen (h : RowAt w g e xs rest) (i : Nat) : w.frozen? ⟨g, i, none⟩ = false := Blk.frozen (t := e) h i
theorem RowAt.chs (h : RowAt w g e xs rest) {S : Nat → Prop} (hc : Chs S w w') (hn : ¬ S g) : RowAt w' g e xs rest := Blk.chs (t := e) h hc hn
theorem RowAt.ext (h : RowAt w g e xs rest) (hc : Ext w w') : RowAt w' g e xs rest := h.chs (S := fun _ => False) (.of_ext hc) (fun e => e)
theorem RowAt.lt (h : RowAt w g e xs rest) : g < w.heap.size := Blk.lt (t := e) h
/-- a run of stores of single cells, as the walk spells it, is the row with one element more laid -/
def setRun : World → Nat → Nat → List Value → World
  | w, _, _, [] => w
  | w, g, o, v :: r => setRun (w.setCell ⟨g, o, none⟩ v) g (o + 1) r
theorem setRun_eq (g : Nat) (vs : List Value) : ∀ (w : World) (o : Nat), setRun w g o vs = w.setCells g o vs := by
  induction vs with
  | nil => intro w o; rfl
  | cons v r ih => intro w o; rw [setRun, World.setCells, ih]
theorem blk_setCells {t : TypeId} : ∀ (vs : List Value) (o : Nat) (w : World) (cur : Array Value), Blk w g t cur → o + vs.length ≤ cur.size →
    Blk (w.setCells g o vs) g t (cur.toList.take o ++ vs ++ cur.toList.drop (o + vs.length)).toArray
  | [], o, w, cur, h, _ => by
    show Blk w g t _
    simpa using h
  | v :: r, o, w, cur, h, hl => by
    have h2 := h.set_ o v
    simp only [List.length_cons] at hl
    have h5 := blk_setCells r (o + 1) (w.setCell ⟨g, o, none⟩ v) _ h2 (by simp; omega)
    rw [World.setCells]
    have hlc : o < cur.toList.length := by rw [Array.length_toList]; omega
    have : (cur.setIfInBounds o v).toList.take (o + 1) ++ r ++ (cur.setIfInBounds o v).toList.drop (o + 1 + r.length) = cur.toList.take o ++ (v :: r) ++ cur.toList.drop (o + (v :: r).length) := by
      rw [Array.toList_setIfInBounds, List.take_set, List.drop_set_of_lt (by omega), List.length_cons, show o + 1 + r.length = o + (r.length + 1) by omega]
      congr 1
      rw [List.take_succ_eq_append_getElem hlc, List.set_append_right _ _ (by rw [List.length_take]; omega)]
      have : o - (cur.toList.take o).length = 0 := by rw [List.length_take]; omega
      rw [this]
      simp
    rw [this] at h5
    exact h5
theorem chs_setCells : ∀ (vs : List Value) (o : Nat) (w : World), Chs (fun i => i = g) w (w.setCells g o vs)
  | [], _, w => Chs.refl _ _
  | v :: r, o, w => by
    rw [World.setCells]
    exact ((Chs.refl (fun i => i = g) w).setCell (p := ⟨g, o, none⟩) (.inl rfl) v).trans (chs_setCells r (o + 1) _)
theorem RowAt.put (h : RowAt w g e xs rest) (hw : Wide k xs) (j : Nat) (hj : j < xs.length) (x : List Value) (hx : x.length = k) : RowAt (setRun w g (j * k) x) g e (xs.set j x) rest := by
  have hle : j * k + k ≤ xs.flatten.length := by
    rw [hw.len]
    have := Nat.mul_le_mul_right k (show j + 1 ≤ xs.length from hj)
    rwa [Nat.add_mul, Nat.one_mul] at this
  have := blk_setCells x (j * k) w _ h (by rw [List.size_toArray, List.length_append]; omega)
  rw [setRun_eq]
  unfold RowAt
  rw [hw.flat_set j hj x hx rest]
  simpa [hx] using this
end
theorem zeroCells_list (z : Array Value) (n : Nat) : (Builtin.zeroCells z n).toList = (List.replicate n z.toList).flatten := by
  induction n with
  | zero => simp [Builtin.zeroCells]
  | succ n ih =>
    rw [List.replicate_succ', List.flatten_append, ← ih]
    simp only [Builtin.zeroCells, Array.toList_map, Array.toList_range, List.flatten_cons, List.flatten_nil, List.append_nil]
    rw [Nat.add_mul, Nat.one_mul, List.range_add, List.map_append, List.map_map]
    congr 1
    apply List.ext_getElem
    · simp
    · intro i h1 h2
      simp at h1 h2
      simp [Nat.mod_eq_of_lt h1, h1]
theorem run_clear {P : Program} {w : World} {t e : TypeId} {z : Value} {g : Nat} {xs : List (List Value)} {rest : List Value} {k : Nat} (ht : P.underlying t = some (.slice e)) (hv : ∀ w, (zeroValue e).run P w = .ok z w) (hz : z.cells.size = k) (h1 : ∀ u ∈ z.cells.toList, u.oneCell' = true)
    (h : RowAt w g e xs rest) (hw : Wide k xs) (i c : Nat) (hi : i < xs.length) (ty : TypeId) :
    (Builtin.clear_ #[t] ty #[.slice (some ⟨g, i * k, none⟩) (xs.length - i) c]).run P w = .ok (.tuple #[]) (w.setCells g (i * k) (List.replicate (xs.length - i) z.cells.toList).flatten) ∧
    RowAt (w.setCells g (i * k) (List.replicate (xs.length - i) z.cells.toList).flatten) g e (xs.take i ++ List.replicate (xs.length - i) z.cells.toList) rest := by
  have hzw : Wide k (List.replicate (xs.length - i) z.cells.toList) := fun y hy => by
    rw [List.eq_of_mem_replicate hy]
    exact ⟨by simpa using hz, h1⟩
  have hl : (List.replicate (xs.length - i) z.cells.toList).flatten.length = (xs.length - i) * k := by rw [hzw.len, List.length_replicate]
  have hmul : i * k + (xs.length - i) * k = xs.length * k := by rw [← Nat.add_mul]; congr 1; omega
  have hb : Blk w g e (xs.flatten ++ rest).toArray := h
  have hfl := hw.len
  constructor
  · have hst := run_storeCells_cells (P := P) g (i * k) (List.replicate (xs.length - i) z.cells.toList).flatten 0 w
      (fun j hj => by rw [hl] at hj; rw [hb.cell, List.getElem?_toArray, Nat.add_zero, List.getElem?_eq_getElem (by rw [List.length_append]; omega)]; rfl)
      (fun j hj => hb.frozen _)
      (fun u hu => by
        obtain ⟨y, hy, hu⟩ := List.mem_flatten.1 hu
        exact (hzw y hy).2 u hu)
    simp only [Nat.add_zero] at hst
    obtain ⟨m, hm⟩ : ∃ m, xs.length - i = m + 1 := ⟨xs.length - i - 1, by omega⟩
    rw [hm] at hst ⊢
    simp [Builtin.clear_, run_underlying ht, hv, zeroCells_list, hst]
  · have := blk_setCells (List.replicate (xs.length - i) z.cells.toList).flatten (i * k) w _ hb (by rw [hl, List.size_toArray, List.length_append]; omega)
    unfold RowAt
    rw [hl] at this
    have e : (xs.take i ++ List.replicate (xs.length - i) z.cells.toList).flatten ++ rest = (xs.flatten ++ rest).take (i * k) ++ (List.replicate (xs.length - i) z.cells.toList).flatten ++ (xs.flatten ++ rest).drop (i * k + (xs.length - i) * k) := by
      rw [List.flatten_append, ← hw.flat_take i (by omega), List.take_append_of_le_length (by omega), hmul, ← hfl, List.drop_left]
    rw [e]
    simpa using this
end Go.Proofs.Ytaedgbkeiankcaa
namespace Go.Proofs.Ytaedgbkeiankcaa
open Go.RowKit
set_option linter.unusedVariables false
theorem enters_fn {P : Program} {f : FuncId} {fn : Func} {c : Code} (hf : P.funcs[f]? = some fn) (hname : (fn.name == "runtime.NumGoroutine") = false) (hb : fn.body = some c) : ∀ args w, (callFunc f args).run P w = .ok (.enter f args) w := by
  intro args w
  have h1 : fn.name ≠ "runtime.NumGoroutine" := by simpa using hname
  simp [callFunc, hf, h1, hb, mark]
/-- a function of an element, in worlds that have grown out of w -/
def FnR (P : Program) (g : Nat) (lb : Array Value) (p : List Value → Bool) (xs : List (List Value)) (w : World) : Prop :=
  ∀ (W : World) (x : List Value), Ext w W → x ∈ xs → Calls P g (#[.agg x.toArray] ++ lb) W fun e w' => e = .returned (.bool (p x)) ∧ Ext w w'
/-- the same, in worlds in which block blk may have turned -/
def FnS (P : Program) (g : Nat) (lb : Array Value) (p : List Value → Bool) (xs : List (List Value)) (blk : Nat) (w : World) : Prop :=
  ∀ (W : World) (x : List Value), Chs (fun i => i = blk) w W → x ∈ xs → Calls P g (#[.agg x.toArray] ++ lb) W fun e w' => e = .returned (.bool (p x)) ∧ Ext W w'
theorem add_plus (a : Addr) (m i : Nat) (hi : 0 < i) : a.add (m + i) = ⟨(a.add m).block, (a.add m).off + i, none⟩ := by
  unfold Addr.add
  rw [if_neg (by omega)]
  by_cases h : m = 0
  · subst h; simp
  · rw [if_neg h]; simp [Nat.add_assoc]
theorem chs_run {a b : World} {g : Nat} (h : Chs (fun i => i = g) a b) (o : Nat) (x : List Value) : Chs (fun i => i = g) a (setRun b g o x) := by
  rw [setRun_eq]
  exact h.trans (chs_setCells _ _ _)
/-- the place of the first one of which p is so, or -1 -/
def idxR {α : Type} (p : α → Bool) : List α → Int
  | [] => -1
  | x :: l => if p x = true then 0 else if idxR p l = -1 then -1 else idxR p l + 1
theorem idxR_miss {α : Type} (p : α → Bool) (l : List α) (h : ∀ x ∈ l, p x = false) : idxR p l = -1 := by
  induction l with
  | nil => rfl
  | cons a l ih => simp [idxR, h a (by simp), ih (fun x hx => h x (by simp [hx]))]
theorem idxR_hit {α : Type} (p : α → Bool) (l : List α) (k : Nat) (hk : k < l.length) (h : ∀ j (hj : j < k), p (l[j]'(by omega)) = false) (hp : p l[k] = true) : idxR p l = k := by
  induction l generalizing k with
  | nil => simp at hk
  | cons a l ih =>
    cases k with
    | zero => simp at hp; simp [idxR, hp]
    | succ k =>
      have h0 := h 0 (by omega)
      have e := ih k (by simpa using hk) (fun j hj => by simpa using h (j + 1) (by omega)) (by simpa using hp)
      simp at h0
      have e2 : ¬ ((k : Int) = -1) := by omega
      rw [idxR, if_neg (by simp [h0]), e, if_neg e2]
      simp
theorem idxR_spec {α : Type} (p : α → Bool) (l : List α) : (idxR p l = -1 ∧ ∀ x ∈ l, p x = false) ∨ ∃ k, ∃ hk : k < l.length, idxR p l = k ∧ p l[k] = true ∧ ∀ j (hj : j < k), p (l[j]'(by omega)) = false := by
  induction l with
  | nil => exact .inl ⟨rfl, fun x hx => by cases hx⟩
  | cons a l ih =>
    cases h : p a with
    | true => exact .inr ⟨0, by simp, by simp [idxR, h], by simpa using h, fun j hj => by omega⟩
    | false =>
      rcases ih with ⟨e, ha⟩ | ⟨k, hk, e, ht, ha⟩
      · refine .inl ⟨by simp [idxR, h, e], fun x hx => ?_⟩
        rcases List.mem_cons.1 hx with rfl | hx
        · exact h
        · exact ha x hx
      · refine .inr ⟨k + 1, by simpa using hk, ?_, by simpa using ht, fun j hj => ?_⟩
        · have e2 : ¬ ((k : Int) = -1) := by omega
          rw [idxR, if_neg (by simp [h]), e, if_neg e2]
          simp
        · cases j with
          | zero => simpa using h
          | succ j => simpa using ha j (by omega)
theorem idxR_any {α : Type} (p : α → Bool) (l : List α) : decide (0 ≤ idxR p l) = l.any p := by
  rcases idxR_spec p l with ⟨e, ha⟩ | ⟨k, hk, e, ht, _⟩
  · rw [e]
    symm
    simpa using ha
  · rw [e]
    have : l.any p = true := List.any_eq_true.2 ⟨l[k], List.getElem_mem hk, ht⟩
    rw [this]
    simp
/-- those of which p is not so -/
def keptR {α : Type} (p : α → Bool) (l : List α) : List α := l.filter fun x => !p x
theorem keptR_all {α : Type} (p : α → Bool) (l : List α) (h : ∀ x ∈ l, p x = false) : keptR p l = l := by
  unfold keptR
  rw [List.filter_eq_self]
  intro x hx
  simp [h x hx]
/-- j looked at, i of them kept, in front -/
structure KeptIs (p : List Value → Bool) (xs : List (List Value)) (i j : Nat) (ys : List (List Value)) : Prop where
  len : ys.length = xs.length
  lt : i < j
  le : j ≤ xs.length
  front : ys.take i = keptR p (xs.take j)
  back : ys.drop j = xs.drop j
  wide : ∀ k, Wide k xs → Wide k ys
section
variable {p : List Value → Bool} {xs ys : List (List Value)} {i j : Nat}
theorem KeptIs.start (p : List Value → Bool) (xs : List (List Value)) (k : Nat) (hk : k < xs.length) (ht : p xs[k] = true) (ha : ∀ j (hj : j < k), p (xs[j]'(by omega)) = false) : KeptIs p xs k (k + 1) xs := by
  refine ⟨rfl, by omega, by omega, ?_, rfl, fun _ h => h⟩
  rw [List.take_succ_eq_append_getElem hk]
  unfold keptR
  rw [List.filter_append]
  have : xs.take k = keptR p (xs.take k) := (keptR_all p _ fun x hx => by
    obtain ⟨j, hj, rfl⟩ := List.getElem_of_mem hx
    rw [List.getElem_take]
    exact ha j (by rw [List.length_take] at hj; omega)).symm
  unfold keptR at this
  rw [← this]
  simp [ht]
theorem KeptIs.at_ (h : KeptIs p xs i j ys) (m : Nat) (hm : j ≤ m) (hl : m < xs.length) : ys[m]'(by rw [h.len]; exact hl) = xs[m] := by
  have e1 : (ys.drop j)[m - j]? = (xs.drop j)[m - j]? := by rw [h.back]
  rw [List.getElem?_drop, List.getElem?_drop, show j + (m - j) = m by omega, List.getElem?_eq_getElem hl, List.getElem?_eq_getElem (by rw [h.len]; exact hl)] at e1
  exact Option.some.inj e1
theorem KeptIs.skip (h : KeptIs p xs i j ys) (hl : j < xs.length) (ht : p xs[j] = true) : KeptIs p xs i (j + 1) ys := by
  refine ⟨h.len, by have := h.lt; omega, by omega, ?_, ?_, h.wide⟩
  · rw [h.front, List.take_succ_eq_append_getElem hl]
    unfold keptR
    rw [List.filter_append]
    simp [ht]
  · rw [← List.drop_drop, ← List.drop_drop, h.back]
theorem KeptIs.keep {x : List Value} (h : KeptIs p xs i j ys) (hl : j < xs.length) (hx : xs[j] = x) (ht : p x = false) : KeptIs p xs (i + 1) (j + 1) (ys.set i x) := by
  have hi : i < ys.length := by have := h.lt; have := h.le; rw [h.len]; omega
  refine ⟨by rw [List.length_set]; exact h.len, by have := h.lt; omega, by omega, ?_, ?_, fun k hk => (h.wide k hk).set i x (hx ▸ hk _ (List.getElem_mem hl))⟩
  · rw [List.take_succ_eq_append_getElem (by rw [List.length_set]; exact hi), List.getElem_set_self, List.take_set_of_le (Nat.le_refl _), h.front, List.take_succ_eq_append_getElem hl]
    unfold keptR
    rw [List.filter_append, hx]
    simp [ht]
  · rw [List.drop_set_of_lt (by have := h.lt; omega), ← List.drop_drop, ← List.drop_drop, h.back]
theorem KeptIs.done (h : KeptIs p xs i xs.length ys) : (keptR p xs).length = i ∧ ys.take i = keptR p xs := by
  have e := h.front
  rw [List.take_length] at e
  refine ⟨?_, e⟩
  rw [← e, List.length_take]
  have := h.lt; rw [h.len]; omega
end
theorem RowAt.reads {w : World} {g : Nat} {e : TypeId} {k : Nat} {xs : List (List Value)} {rest : List Value} (h : RowAt w g e xs rest) (hw : Wide k xs) : Reads w w.heap.size k (some ⟨g, 0, none⟩) xs.length xs.flatten := by
  refine ⟨hw.len, fun hn => ⟨_, rfl, h.lt, fun j u hu => ?_⟩⟩
  have h' : Blk w g e (xs.flatten ++ rest).toArray := h
  have : (⟨g, 0, none⟩ : Addr).add j = ⟨g, j, none⟩ := by unfold Addr.add; split <;> simp_all
  rw [this, h'.cell, List.getElem?_toArray, List.getElem?_append_left (List.getElem?_eq_some_iff.1 hu).1, hu]
theorem own_rowAt {w : World} {base k : Nat} {e : TypeId} {v : Value} {xs : List (List Value)} (h : w.ownsRow base e k v xs.length xs.flatten) (hw : Wide k xs) :
    (v = .slice none 0 0 ∧ xs = []) ∨ ∃ g cap rest, v = .slice (some ⟨g, 0, none⟩) xs.length cap ∧ base ≤ g ∧ g < w.heap.size ∧ xs.length ≤ cap ∧ cap ≤ maxLen ∧ RowAt w g e xs rest ∧ xs.flatten.length + rest.length = cap * k := by
  rcases h.2 with ⟨rfl, h0⟩ | ⟨g, cap, cur, rfl, hb, hg, hc, hm, hs, ht⟩
  · exact .inl ⟨rfl, List.eq_nil_of_length_eq_zero h0⟩
  · refine .inr ⟨g, cap, cur.toList.drop (xs.length * k), rfl, hb, (Array.getElem?_eq_some_iff.1 hg).1, hc, hm, ?_, ?_⟩
    · unfold RowAt Blk
      rw [hg]
      congr 2
      rw [← ht, List.take_append_drop]
    · have hle : xs.length * k ≤ cap * k := Nat.mul_le_mul_right k hc
      have hcl : cur.toList.length = cap * k := by rw [Array.length_toList]; exact hs
      rw [hw.len, List.length_drop, hcl]
      omega
theorem rowAt_own {w : World} {base g cap k : Nat} {e : TypeId} {xs : List (List Value)} {rest : List Value} (h : RowAt w g e xs rest) (hw : Wide k xs) (hb : base ≤ g) (hc : xs.length ≤ cap) (hm : cap ≤ maxLen) (hs : xs.flatten.length + rest.length = cap * k) :
    w.ownsRow base e k (.slice (some ⟨g, 0, none⟩) xs.length cap) xs.length xs.flatten := by
  refine ⟨hw.len, .inr ⟨g, cap, _, rfl, hb, h, hc, hm, by rw [List.size_toArray, List.length_append, hs], ?_⟩⟩
  rw [← hw.len]
  simp
theorem RowAt.split {w : World} {g : Nat} {e : TypeId} {xs ys : List (List Value)} {rest : List Value} (h : RowAt w g e (xs ++ ys) rest) : RowAt w g e xs (ys.flatten ++ rest) := by
  unfold RowAt at h ⊢
  rwa [List.flatten_append, List.append_assoc] at h
/-- of what was there, only v's own block has turned -/
abbrev ChsV (v : Value) (a b : World) : Prop := Chs (fun i => v.ownBlock = some i) a b
theorem wide_kept {k : Nat} {p : List Value → Bool} {xs : List (List Value)} (h : Wide k xs) : Wide k (keptR p xs) := fun y hy => h y (List.mem_filter.1 hy).1
theorem kept_le {α : Type} (p : α → Bool) (l : List α) : (keptR p l).length ≤ l.length := List.length_filter_le _ _
end Go.Proofs.Ytaedgbkeiankcaa
