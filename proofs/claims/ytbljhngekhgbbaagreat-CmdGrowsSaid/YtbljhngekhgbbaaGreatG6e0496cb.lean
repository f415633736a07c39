/- Texts of the proofs of CmdEnds, CmdFirst, CmdGrows, CmdPlays, merged (AmG, AmH, AmI, AmJ, AmK, AmKz, AmKy). -/
import Derived.Laws.Tables
import Derived.Great.BuildSlice
import Derived.Laws.CopyRow
import Derived.Laws.CopyOwn
import Derived.Laws.OwnMore
import Derived.Test.YtbljhngekhgbbaaGreatGb3b707fa
import Derived.Test.YtbljhngekhgbbaaGreatGb43ee308
import Derived.Test.YtbljhngekhgbbaaGreatG9c20b58a
set_option linter.unusedSimpArgs false
set_option linter.unusedVariables false
namespace Go.Proofs.YtbljhngekhgbbaaGreat
open Go.RowKit
set_option linter.unusedVariables false
set_option linter.unusedSectionVars false
set_option linter.unusedSimpArgs false
section
variable {P : Program} {N n n' : Nat} {W w w' : World} {H : Addr → Prop} {β β' : Ids} {X : Nat → Prop} {st : SSt} {a : Act} {G : Addr → Prop} {σ σ' : Store}
theorem MemI.fresh (h : MemI w H β σ n) {i : Nat} (hi : n ≤ i) : σ.lookup i = none := by
  cases e : σ.lookup i with
  | none => rfl
  | some row =>
    obtain ⟨O, h1, _⟩ := h.row i row e
    rw [h.dom i hi] at h1
    cases h1
/-- row d goes, or is written; row i0 comes -/
theorem MStep.turn (h : MemI w H β σ n) {d i0 : Nat} {row0 : Row} {O0 : Own} (hn : n ≤ n') (hi : i0 < n') (hβ : ∀ i, β' i = if i = i0 then some O0 else β i) (h0 : n ≤ i0 ∨ β i0 = some O0)
    (hlk : ∀ i row, σ'.lookup i = some row → (i = i0 ∧ row = row0) ∨ (i ≠ i0 ∧ i ≠ d ∧ σ.lookup i = some row))
    (hO : O0.z = true ∨ w.heap.size ≤ O0.b ∨ ∃ rd Od, σ.lookup d = some rd ∧ β d = some Od ∧ Od.z = false ∧ Od.b = O0.b)
    (hos : w'.os = w.os) (htp : w'.tape = w.tape) (hout : w'.output = w.output) (hsz : w.heap.size ≤ w'.heap.size)
    (hblk : ∀ b, b < w.heap.size → (∀ rd Od, σ.lookup d = some rd → β d = some Od → Od.z = false → Od.b ≠ b) → w'.heap[b]? = w.heap[b]?)
    (hst : ∀ G' : Addr → Prop, (∀ q u, w.cell? q = some u → gOf H β σ q → w'.cell? q = some u ∧ G' q) → row0.Stands w' G' β' O0) : MStep H w β σ n w' β' σ' n' := by
  have hmore : ∀ i o, β i = some o → β' i = some o := by
    intro i o hi'
    rw [hβ]
    split
    · rename_i e
      subst e
      rcases h0 with h0 | h0
      · rw [h.dom _ h0] at hi'; cases hi'
      · rw [← hi', h0]
    · exact hi'
  have hsame : ∀ i, i < n → β' i = β i := by
    intro i hlt
    rw [hβ]
    split
    · rename_i e
      subst e
      rcases h0 with h0 | h0
      · omega
      · exact h0.symm
    · rfl
  have hown : ∀ b, owned β' σ' b → w.heap.size ≤ b ∨ owned β σ b := by
    rintro b ⟨i, row, O, h1, h2, h3, rfl⟩
    rcases hlk i row h1 with ⟨rfl, rfl⟩ | ⟨e1, e2, h4⟩
    · rw [hβ, if_pos rfl] at h2
      obtain rfl := Option.some.inj h2
      rcases hO with hO | hO | ⟨rd, Od, k1, k2, k3, k4⟩
      · rw [hO] at h3; cases h3
      · exact .inl hO
      · exact .inr ⟨d, rd, Od, k1, k2, k3, k4⟩
    · rw [hβ, if_neg e1] at h2
      exact .inr ⟨i, row, O, h4, h2, h3, rfl⟩
  have hext : ExtB (owned β σ) w w' := ⟨hos, htp, hout, hsz, fun b hb hx => hblk b hb fun rd Od k1 k2 k3 e => hx ⟨d, rd, Od, k1, k2, k3, e⟩⟩
  have hkeep := gOf_keep (H := H) hext hown
  refine ⟨hmore, hsame, hext, ⟨fun i hni => ?_, fun i row hrow => ?_, fun i j ri rj Oi Oj li lj bi bj zi zj e => ?_, fun p hp => h.new p (Nat.le_trans hsz hp), fun p hp => (hown _ hp).elim (h.new p) (h.inH p)⟩, hown, hn⟩
  · rw [hβ, if_neg (by omega)]
    exact h.dom i (by omega)
  · rcases hlk i row hrow with ⟨rfl, rfl⟩ | ⟨e1, e2, h4⟩
    · exact ⟨O0, by rw [hβ, if_pos rfl], hst _ hkeep⟩
    · obtain ⟨O, k1, k2⟩ := h.row i row h4
      refine ⟨O, by rw [hβ, if_neg e1]; exact k1, (k2.turn (fun hz => hblk O.b (k2.lt hz) fun rd Od l1 l2 l3 e => e2 ?_) hkeep).more hmore⟩
      exact h.inj i d row rd O Od h4 l1 k1 l2 hz l3 e.symm
  · have old : ∀ i ri Oi, i ≠ i0 → i ≠ d → σ.lookup i = some ri → β' i = some Oi → Oi.z = false → Oi.b < w.heap.size ∧ β i = some Oi := by
      intro i ri Oi e1 e2 h4 b4 z4
      rw [hβ, if_neg e1] at b4
      obtain ⟨O, k1, k2⟩ := h.row i ri h4
      rw [b4] at k1
      obtain rfl := Option.some.inj k1
      exact ⟨k2.lt z4, b4⟩
    have cross : ∀ i ri Oi Oj, i ≠ i0 → i ≠ d → σ.lookup i = some ri → β' i = some Oi → Oi.z = false → β' i0 = some Oj → Oj.z = false → Oi.b = Oj.b → False := by
      intro i ri Oi Oj e1 e2 h4 b4 z4 b0 z0 e
      rw [hβ, if_pos rfl] at b0
      obtain rfl := Option.some.inj b0
      obtain ⟨hlt, b5⟩ := old i ri Oi e1 e2 h4 b4 z4
      rcases hO with hO | hO | ⟨rd, Od, k1, k2, k3, k4⟩
      · rw [hO] at z0; cases z0
      · omega
      · exact e2 (h.inj i d ri rd Oi Od h4 k1 b5 k2 z4 k3 (by rw [e, k4]))
    rcases hlk i ri li with ⟨rfl, _⟩ | ⟨e1, e2, h4⟩ <;> rcases hlk j rj lj with ⟨rfl, _⟩ | ⟨f1, f2, h5⟩
    · rfl
    · exact (cross j rj Oj Oi f1 f2 h5 bj zj bi zi e.symm).elim
    · exact (cross i ri Oi Oj e1 e2 h4 bi zi bj zj e).elim
    · exact h.inj i j ri rj Oi Oj h4 h5 (old i ri Oi e1 e2 h4 bi zi).2 (old j rj Oj f1 f2 h5 bj zj).2 zi zj e
/-- nothing of the store turns; new blocks may have come -/
theorem MStep.grow (h : MemI w H β σ n) (hx : Ext w w') (hn : n ≤ n') : MStep H w β σ n w' β σ n' := by
  have hext : ExtB (owned β σ) w w' := ExtB.of_ext hx
  have hkeep := gOf_keep (H := H) (β' := β) (σ' := σ) hext fun b hb => .inr hb
  exact ⟨fun _ _ h => h, fun _ _ => rfl, hext, ⟨fun i hi => h.dom i (by omega), fun i row hr => by
    obtain ⟨O, k1, k2⟩ := h.row i row hr
    exact ⟨O, k1, k2.turn (fun hz => hx.below.block _ (k2.lt hz)) hkeep⟩, h.inj, fun p hp => h.new p (Nat.le_trans hx.size hp), h.inH⟩, fun b hb => .inr hb, hn⟩
/-- a row goes: its cells stay from here on -/
theorem MStep.drop (h : MemI w H β σ n) (hlk : ∀ i row, σ'.lookup i = some row → σ.lookup i = some row) (hn : n ≤ n') : MStep H w β σ n w β σ' n' := by
  have hown : ∀ b, owned β σ' b → w.heap.size ≤ b ∨ owned β σ b := by
    rintro b ⟨i, row, O, h1, h2⟩
    exact .inr ⟨i, row, O, hlk i row h1, h2⟩
  have hkeep := gOf_keep (H := H) (ExtB.refl (owned β σ) w) hown
  exact ⟨fun _ _ h => h, fun _ _ => rfl, ExtB.refl _ _, ⟨fun i hi => h.dom i (by omega), fun i row hr => by
    obtain ⟨O, k1, k2⟩ := h.row i row (hlk i row hr)
    exact ⟨O, k1, k2.turn (fun _ => rfl) hkeep⟩, fun i j ri rj Oi Oj li lj => h.inj i j ri rj Oi Oj (hlk i ri li) (hlk j rj lj), h.new, fun p hp => (hown _ hp).elim (h.new p) (h.inH p)⟩, hown, hn⟩
end
end Go.Proofs.YtbljhngekhgbbaaGreat
namespace Go.Proofs.YtbljhngekhgbbaaGreat
open Go.RowKit
set_option linter.unusedVariables false
set_option linter.unusedSectionVars false
set_option linter.unusedSimpArgs false
def fillP (place : Nat → Option (Nat × Nat)) (cells : List PV) : List (Nat × TV) → Option (List PV)
  | [] => some cells
  | (i, tv) :: rest => (place i).bind fun q => tv.cells.bind fun cs => if cs.length = q.2 ∧ q.1 + cs.length ≤ cells.length then fillP place (cells.take q.1 ++ cs ++ cells.drop (q.1 + cs.length)) rest else none
def fillR (k : Nat) (rows : List (List PV)) : List (Nat × TV) → Option (List (List PV))
  | [] => some rows
  | (i, tv) :: rest => tv.cells.bind fun cs => if cs.length = k ∧ i < rows.length then fillR k (rows.set i cs) rest else none
def SSt.parts (st : SSt) : List (Nat × Operand) → Option (List (Nat × TV))
  | [] => some []
  | (i, x) :: xs => (st.eval x).bind fun v => (st.parts xs).map ((i, v) :: ·)
def zeroP (P : Program) (t : TypeId) : Option (List PV) := (P.info? t).bind fun i => i.zero.bind fun z => if z.cells.toList.all (·.oneCell') = true then some (z.cells.toList.map ofCell) else none
def placesP (P : Program) (t : TypeId) : Option (List (Nat × Nat)) := match P.underlying t with
  | some (.struct fs) => fs.toList.mapM fun f => (P.info? f.type).map fun i => (f.offset, i.size)
  | _ => none
def freess (rows : List (List PV)) : Bool := rows.all PV.frees
def Store.rm (σ : Store) (d : Nat) : Store := σ.filter fun e => e.1 != d
def Store.set (σ : Store) (i : Nat) (row : Row) : Store := (i, row) :: Store.rm σ i
/-- the operations that make memory, or write to it: what comes of them, and the store -/
def sopM (P : Program) (st : SSt) (o : Oper) : Option (TV × Store × Nat) := match o.op with
  | .build t parts => (st.parts parts.toList).bind fun ps => (zeroP P t).bind fun z => (placesP P t).bind fun pl => (fillP (pl[·]?) z ps).map fun cs => (.agg cs, st.boxes, st.next)
  | .buildSlice t len parts => (elemD P t).bind fun e => (sizeP P e).bind fun k => (zeroP P e).bind fun z => (st.parts parts.toList).bind fun ps => if z.length = k ∧ 0 < k ∧ len * k ≤ 16777216 then (fillR k (List.replicate len z) ps).bind fun rows => if freess rows = true then some (.one (.sl true rows), st.boxes, st.next) else none else none
  | .alloc e => (zeroP P e).map fun z => (.one (.box st.next 0), (st.next, .var z) :: st.boxes, st.next + 1)
  | .box e x => (st.eval x).bind fun v => v.cells.map fun cs => (.one (.box st.next 0), (st.next, .var cs) :: st.boxes, st.next + 1)
  | .store t x y => (st.eval y).bind fun v => v.cells.bind fun cs => if sizeP P t = some cs.length then (match st.eval x with
    | some (.one (.box b off)) => (match st.boxes.lookup b with
      | some (.var xs) => if off + cs.length ≤ xs.length then some (.bad, Store.set st.boxes b (.var (xs.take off ++ cs ++ xs.drop (off + cs.length))), st.next) else none
      | _ => none)
    | some (.one (.elp b i off)) => (match st.boxes.lookup b with
      | some (.own e k rows) => (rows[i]?).bind fun r => if off + cs.length ≤ r.length ∧ PV.frees cs = true then some (.bad, Store.set st.boxes b (.own e k (rows.set i (r.take off ++ cs ++ r.drop (off + cs.length)))), st.next) else none
      | _ => none)
    | _ => none) else none
  | _ => none
section
variable {ds : List Deferred} {P : Program} {N : Nat} {W w w' : World} {H : Addr → Prop} {β : Ids} {X : Nat → Prop} {st : SSt} {a : Act} {G : Addr → Prop} {K : Act → World → Prop} {Q : Exit → Act → World → Prop}
theorem foldl_set (off : Nat) : ∀ (cs : List Value) (j : Nat) (arr : Array Value), off + j + cs.length ≤ arr.size →
    ((cs.zipIdx j).foldl (fun (x : Array Value) (y : Value × Nat) => x.setIfInBounds (off + y.2) y.1) arr).toList = arr.toList.take (off + j) ++ cs ++ arr.toList.drop (off + j + cs.length)
  | [], j, arr, _ => by simp
  | c :: cs, j, arr, h => by
    simp only [List.length_cons] at h
    rw [List.zipIdx_cons, List.foldl_cons, foldl_set off cs (j + 1) _ (by simp; omega)]
    have hlt : off + j < arr.toList.length := by rw [Array.length_toList]; omega
    rw [Array.toList_setIfInBounds, show off + (j + 1) = off + j + 1 by omega, List.take_set, List.drop_set_of_lt (by omega), List.length_cons, show off + j + 1 + cs.length = off + j + (cs.length + 1) by omega, List.take_succ_eq_append_getElem hlt,
      List.set_append_right _ _ (by rw [List.length_take]; omega)]
    have : off + j - (arr.toList.take (off + j)).length = 0 := by rw [List.length_take]; omega
    rw [this]
    simp
theorem fill_step (place : Nat → Option (Nat × Nat)) (cells : Array Value) (i : Nat) (v : Value) (rest : List (Nat × Value)) (off size : Nat) (hp : place i = some (off, size)) (hs : v.cells.size = size) (hle : off + v.cells.size ≤ cells.size) :
    Instr.fill place cells ((i, v) :: rest) = Instr.fill place (cells.toList.take off ++ v.cells.toList ++ cells.toList.drop (off + v.cells.size)).toArray rest := by
  have e := foldl_set off v.cells.toList 0 cells (by simpa using hle)
  have e2 : v.cells.zipIdx.foldl (fun (cs : Array Value) (x : Value × Nat) => cs.setIfInBounds (off + x.2) x.1) cells = (cells.toList.take off ++ v.cells.toList ++ cells.toList.drop (off + v.cells.size)).toArray := by
    apply Array.ext'
    rw [← Array.foldl_toList, Array.toList_zipIdx, e]
    simp
  conv => lhs; unfold Instr.fill
  simp only [hp]
  rw [if_neg (by simp [hs]; omega)]
  exact congrArg (fun c => Instr.fill place c rest) e2
/-- parts, one by one -/
def RepParts (w : World) (G : Addr → Prop) (β : Ids) : List (Nat × TV) → List (Nat × Value) → Prop
  | [], [] => True
  | (i, t) :: ps, (j, v) :: vs => i = j ∧ RepT w G β t v ∧ RepParts w G β ps vs
  | _, _ => False
theorem Inv.parts_ (h : Inv ds N W X H β st a w) : ∀ {xs : List (Nat × Operand)} {ps : List (Nat × TV)}, st.parts xs = some ps → RepParts w (st.G H β) β ps (xs.map fun x => (x.1, a.eval x.2))
  | [], ps, e => by simp [SSt.parts] at e; subst e; trivial
  | (i, x) :: xs, ps, e => by
    simp only [SSt.parts, Option.bind_eq_some_iff, Option.map_eq_some_iff] at e
    obtain ⟨v, hv, r, hr, rfl⟩ := e
    exact ⟨rfl, h.eval hv, h.parts_ hr⟩
theorem fillP_ok (place : Nat → Option (Nat × Nat)) : ∀ {ps : List (Nat × TV)} {vs : List (Nat × Value)} {cs ds : List PV} {us : Array Value}, RepParts w G β ps vs → RepL w G β cs us.toList → fillP place cs ps = some ds → ∃ us', Instr.fill place us vs = some us' ∧ RepL w G β ds us'.toList
  | [], [], cs, ds, us, _, hl, e => by
    simp [fillP] at e
    subst e
    exact ⟨us, rfl, hl⟩
  | (i, t) :: ps, (j, v) :: vs, cs, ds, us, ⟨hij, ht, hr⟩, hl, e => by
    subst hij
    simp only [fillP, Option.bind_eq_some_iff] at e
    obtain ⟨⟨off, size⟩, hp, c, hc, e⟩ := e
    dsimp only at e
    split at e
    · rename_i hcond
      have hcl := ht.cells_ hc
      have hlen : v.cells.size = c.length := by rw [← Array.length_toList]; exact hcl.1
      have hus : us.size = cs.length := by rw [← Array.length_toList]; exact hl.1
      rw [fill_step place us i v vs off size hp (by rw [hlen]; exact hcond.1) (by rw [hlen, hus]; exact hcond.2)]
      refine fillP_ok place hr ?_ e
      have := ((hl.take off).append hcl).append (hl.drop (off + c.length))
      rw [hlen]
      simpa using this
    · cases e
  | [], _ :: _, _, _, _, h, _, _ => h.elim
  | _ :: _, [], _, _, _, h, _, _ => h.elim
theorem flat_set {k : Nat} : ∀ {rows : List (List PV)} {i : Nat} {cs : List PV}, (∀ r ∈ rows, r.length = k) → i < rows.length → cs.length = k → (rows.set i cs).flatten = rows.flatten.take (i * k) ++ cs ++ rows.flatten.drop (i * k + k)
  | [], i, cs, _, hi, _ => by simp at hi
  | x :: rows, 0, cs, hk, _, hc => by
    have hx := hk x (by simp)
    simp [hx]
  | x :: rows, i + 1, cs, hk, hi, hc => by
    have hx := hk x (by simp)
    have ih := flat_set (rows := rows) (i := i) (fun r hr => hk r (by simp [hr])) (by simpa using hi) hc
    rw [List.set_cons_succ, List.flatten_cons, List.flatten_cons, ih]
    rw [show (i + 1) * k = x.length + i * k by rw [hx, Nat.add_mul]; omega, List.take_length_add_append, Nat.add_assoc, List.drop_length_add_append]
    simp only [List.append_assoc]
theorem fillR_ok {k : Nat} : ∀ {ps : List (Nat × TV)} {vs : List (Nat × Value)} {rows ds : List (List PV)} {us : Array Value}, RepParts w G β ps vs → (∀ r ∈ rows, r.length = k) → RepL w G β rows.flatten us.toList → fillR k rows ps = some ds →
    ∃ us', Instr.fill (fun i => some (i * k, k)) us vs = some us' ∧ RepL w G β ds.flatten us'.toList ∧ (∀ r ∈ ds, r.length = k) ∧ ds.length = rows.length
  | [], [], rows, ds, us, _, hk, hl, e => by
    simp [fillR] at e
    subst e
    exact ⟨us, rfl, hl, hk, rfl⟩
  | (i, t) :: ps, (j, v) :: vs, rows, ds, us, ⟨hij, ht, hr⟩, hk, hl, e => by
    subst hij
    simp only [fillR, Option.bind_eq_some_iff] at e
    obtain ⟨c, hc, e⟩ := e
    split at e
    · rename_i hcond
      have hcl := ht.cells_ hc
      have hlen : v.cells.size = c.length := by rw [← Array.length_toList]; exact hcl.1
      have hus : us.size = rows.length * k := by rw [← Array.length_toList, hl.1, flat_len hk]
      have hmul : i * k + k ≤ rows.length * k := by
        have := Nat.mul_le_mul_right k (show i + 1 ≤ rows.length from hcond.2)
        rwa [Nat.add_mul, Nat.one_mul] at this
      have hk' : ∀ r ∈ rows.set i c, r.length = k := by
        intro r hr
        rcases List.mem_or_eq_of_mem_set hr with h | rfl
        · exact hk r h
        · exact hcond.1
      rw [fill_step _ us i v vs (i * k) k rfl (by rw [hlen]; exact hcond.1) (by rw [hlen, hus, hcond.1]; exact hmul)]
      have hnew : RepL w G β (rows.set i c).flatten (us.toList.take (i * k) ++ v.cells.toList ++ us.toList.drop (i * k + v.cells.size)).toArray.toList := by
        rw [flat_set hk hcond.2 hcond.1, hlen, hcond.1]
        exact ((hl.take (i * k)).append hcl).append (hl.drop (i * k + k))
      obtain ⟨us', h1, h2, h3, h4⟩ := fillR_ok hr hk' hnew e
      exact ⟨us', h1, h2, h3, by rw [h4, List.length_set]⟩
    · cases e
  | [], _ :: _, _, _, _, h, _, _, _ => h.elim
  | _ :: _, [], _, _, _, h, _, _, _ => h.elim
theorem zeroP_ok {t : TypeId} {z : List PV} (h : zeroP P t = some z) : ∃ i zv, P.info? t = some i ∧ i.zero = some zv ∧ RepL w G β z zv.cells.toList := by
  unfold zeroP at h
  obtain ⟨i, hi, h⟩ := Option.bind_eq_some_iff.1 h
  obtain ⟨zv, hz, h⟩ := Option.bind_eq_some_iff.1 h
  split at h
  · rename_i hc
    obtain rfl := Option.some.inj h
    exact ⟨i, zv, hi, hz, rep_ofCells (fun v hv => List.all_eq_true.1 hc v hv)⟩
  · cases h
theorem ok_w {s : Sem Value} {x : Value} (h : s.run P w = .ok x w') : (do pure (Next.value (← s)) : Sem Next).run P w = .ok (.value x) w' := by rw [Sem.run_bind, h, Result.andThen_ok]; rfl
theorem ok_bind_ {α γ : Type} {s : Sem α} {x : α} {f : α → Sem γ} (h : s.run P w = .ok x w') : (s >>= f).run P w = (f x).run P w' := by rw [Sem.run_bind, h, Result.andThen_ok]
theorem freess_flat {rows : List (List PV)} : freess rows = PV.frees rows.flatten := by
  induction rows with
  | nil => rfl
  | cons r rs ih =>
    have hap : ∀ xs ys : List PV, PV.frees (xs ++ ys) = (PV.frees xs && PV.frees ys) := by
      intro xs ys
      induction xs with
      | nil => simp [PV.frees]
      | cons x xs ih => simp [PV.frees, ih, Bool.and_assoc]
    rw [List.flatten_cons, hap, ← ih]
    rfl
theorem lookup_rm {σ : Store} {d i : Nat} : (Store.rm σ d).lookup i = if i = d then none else σ.lookup i := by
  unfold Store.rm
  induction σ with
  | nil => simp
  | cons e σ ih =>
    obtain ⟨j, row⟩ := e
    rw [List.filter_cons]
    by_cases hj : j = d
    · subst hj
      simp only [bne_self_eq_false, Bool.false_eq_true, if_false]
      rw [ih, List.lookup_cons]
      by_cases hi : i = j
      · simp [hi]
      · have : (i == j) = false := by simpa using hi
        simp [hi, this]
    · have : (j != d) = true := by simpa using hj
      simp only [this, if_true]
      rw [List.lookup_cons, List.lookup_cons, ih]
      by_cases hi : i = j
      · subst hi; simp [hj]
      · have : (i == j) = false := by simpa using hi
        simp [this]
theorem lookup_set {σ : Store} {d i : Nat} {row : Row} : (Store.set σ d row).lookup i = if i = d then some row else σ.lookup i := by
  unfold Store.set
  rw [List.lookup_cons]
  by_cases hi : i = d
  · subst hi; simp
  · have : (i == d) = false := by simpa using hi
    rw [this, lookup_rm]
    simp [hi]
theorem splice {α : Type} (L cs : List α) (i off c k : Nat) (h : off + c ≤ k) : L.take i ++ (((L.drop i).take k).take off ++ cs ++ ((L.drop i).take k).drop (off + c)) ++ L.drop (i + k) = L.take (i + off) ++ cs ++ L.drop (i + off + c) := by
  have e1 : ((L.drop i).take k).take off = (L.drop i).take off := by rw [List.take_take, Nat.min_eq_left (by omega)]
  have e2 : ((L.drop i).take k).drop (off + c) = (L.drop (i + off + c)).take (k - (off + c)) := by rw [List.drop_take, List.drop_drop]; congr 2; omega
  have e3 : L.drop (i + k) = (L.drop (i + off + c)).drop (k - (off + c)) := by rw [List.drop_drop]; congr 1; omega
  rw [e1, e2, e3, List.take_add]
  simp only [List.append_assoc]
  rw [List.take_append_drop]
theorem row_of_flat {rows : List (List PV)} {k i : Nat} {r : List PV} (hall : ∀ r ∈ rows, r.length = k) (hr : rows[i]? = some r) : r = (rows.flatten.drop (i * k)).take k := by
  have hrl := hall r (List.mem_of_getElem? hr)
  apply List.ext_getElem?
  intro j
  rw [List.getElem?_take, List.getElem?_drop]
  by_cases hj : j < k
  · rw [if_pos hj, flat_get hall hr j hj]
  · rw [if_neg hj, List.getElem?_eq_none (by omega)]
theorem take_splice (L vs : List Value) (A c n : Nat) (hv : vs.length = c) (h : A + c ≤ n) (hn : n ≤ L.length) : (L.take A ++ vs ++ L.drop (A + c)).take n = (L.take n).take A ++ vs ++ (L.take n).drop (A + c) := by
  have e1 : (L.take n).take A = L.take A := by rw [List.take_take, Nat.min_eq_left (by omega)]
  have e2 : (L.take n).drop (A + c) = (L.drop (A + c)).take (n - (A + c)) := by rw [List.drop_take]
  have e3 : (L.take A ++ vs).length = A + c := by rw [List.length_append, List.length_take, hv]; omega
  rw [e1, e2, List.take_append, e3, List.take_of_length_le (by omega)]
/-- what has been done -/
def Did (P : Program) (H : Addr → Prop) (w : World) (β : Ids) (st : SSt) (o : Oper) (a : Act) (tv : TV) (σ' : Store) (n' : Nat) : Prop :=
  ∃ nx v w' β', (execOp a.eval o).run P w = .ok nx w' ∧ (nx = .value v ∨ (nx = .skip ∧ v = undef)) ∧ MStep H w β st.boxes st.next w' β' σ' n' ∧ RepT w' (gOf H β' σ') β' tv v
theorem Did.value {o : Oper} {tv : TV} {v : Value} {β' : Ids} {σ' : Store} {n' : Nat} (hr : (execOp a.eval o).run P w = .ok (.value v) w') (hm : MStep H w β st.boxes st.next w' β' σ' n') (ht : RepT w' (gOf H β' σ') β' tv v) : Did P H w β st o a tv σ' n' :=
  ⟨_, v, w', β', hr, .inl rfl, hm, ht⟩
theorem Did.skip {o : Oper} {β' : Ids} {σ' : Store} {n' : Nat} (hr : (execOp a.eval o).run P w = .ok .skip w') (hm : MStep H w β st.boxes st.next w' β' σ' n') : Did P H w β st o a .bad σ' n' :=
  ⟨_, undef, w', β', hr, .inr ⟨rfl, rfl⟩, hm, .bad⟩
theorem not_owned_new (h : MemI w H β st.boxes st.next) {b : Nat} (hb : w.heap.size ≤ b) : ¬ owned β st.boxes b := fun ho => by have := h.lt ho; omega
/-- a new row, that is only read -/
theorem Inv.row_new (h : Inv ds N W X H β st a w) {rows : List (List PV)} {us : List Value} {k : Nat} (hk : ∀ r ∈ rows, r.length = k) (hl : RepL w (st.G H β) noIds rows.flatten us) (ty : TypeId) :
    MStep H w β st.boxes st.next (w.alloc (.cells us.toArray ty (0, 0))) β st.boxes st.next ∧ RepT (w.alloc (.cells us.toArray ty (0, 0))) (gOf H β st.boxes) β (.one (.sl true rows)) (.slice (some ⟨w.heap.size, 0, none⟩) rows.length rows.length) := by
  have hm := MStep.grow h.mem ((Ext.refl w).alloc (.cells us.toArray ty (0, 0))) (Nat.le_refl st.next)
  refine ⟨hm, .one ?_⟩
  have hh : (w.alloc (.cells us.toArray ty (0, 0))).heap[w.heap.size]? = some (.cells us.toArray ty (0, 0)) := by show (w.heap.push _)[w.heap.size]? = _; rw [Array.getElem?_push_size]
  refine .sl (Nat.le_refl _) (fun _ => rfl) hk hl.1 (fun i u hu => ⟨by rw [cell_at hh, hu], h.mem.new _ (by rw [block_of_add]; exact Nat.le_refl _), not_owned_new h.mem (by rw [block_of_add]; exact Nat.le_refl _)⟩) (hl.mono hm.keep).2
/-- a new variable -/
theorem Inv.box_new (h : Inv ds N W X H β st a w) {cs : List PV} {us : List Value} (hl : RepL w (st.G H β) β cs us) (ty : TypeId) :
    ∃ β', MStep H w β st.boxes st.next (w.alloc (.cells us.toArray ty (0, 0))) β' ((st.next, .var cs) :: st.boxes) (st.next + 1) ∧
      RepT (w.alloc (.cells us.toArray ty (0, 0))) (gOf H β' ((st.next, .var cs) :: st.boxes)) β' (.one (.box st.next 0)) (.pointer (some ⟨w.heap.size, 0, none⟩)) := by
  have hh : (w.alloc (.cells us.toArray ty (0, 0))).heap[w.heap.size]? = some (.cells us.toArray ty (0, 0)) := by show (w.heap.push _)[w.heap.size]? = _; rw [Array.getElem?_push_size]
  have hm : ∀ β' : Ids, (∀ i, β' i = if i = st.next then some ⟨w.heap.size, 0, 0, false⟩ else β i) → MStep H w β st.boxes st.next (w.alloc (.cells us.toArray ty (0, 0))) β' ((st.next, .var cs) :: st.boxes) (st.next + 1) := fun β' hβ => by
    have hmore : ∀ i o, β i = some o → β' i = some o := fun i o hi => by
      rw [hβ]
      split
      · rename_i e
        rw [e, h.mem.dom _ (Nat.le_refl _)] at hi; cases hi
      · exact hi
    refine MStep.turn h.mem (d := st.next) (i0 := st.next) (row0 := .var cs) (O0 := ⟨w.heap.size, 0, 0, false⟩) (Nat.le_succ _) (Nat.lt_succ_self _) hβ (.inl (Nat.le_refl _)) (fun i row hi => ?_) (.inr (.inl (Nat.le_refl _))) rfl rfl rfl (by simp) (fun b hb _ => Below.heap_alloc w _ b hb) (fun G' hk => ⟨rfl, ty, us, hh, (hl.mono hk).more hmore⟩)
    rw [List.lookup_cons] at hi
    by_cases e : i = st.next
    · subst e; simp at hi; exact .inl ⟨rfl, hi.symm⟩
    · have e' : (i == st.next) = false := by simpa using e
      rw [e'] at hi
      exact .inr ⟨e, e, hi⟩
  exact ⟨_, hm _ fun _ => rfl, .one (.box (O := ⟨w.heap.size, 0, 0, false⟩) (off := 0) (by simp) rfl)⟩
/-- a write into a block -/
theorem Inv.write (h : Inv ds N W X H β st a w) {b : Nat} {row0 row : Row} {O : Own} (hb : st.boxes.lookup b = some row) (hO : β b = some O) (hz : O.z = false) {cur : Array Value} {ty : TypeId} (hh : w.heap[O.b]? = some (.cells cur ty (0, 0))) (new : Array Value)
    (hst : ∀ G' : Addr → Prop, (∀ q u, w.cell? q = some u → gOf H β st.boxes q → (w.setRow O.b new).cell? q = some u ∧ G' q) → (w.setRow O.b new).heap[O.b]? = some (.cells new ty (0, 0)) → row0.Stands (w.setRow O.b new) G' β O) :
    MStep H w β st.boxes st.next (w.setRow O.b new) β (Store.set st.boxes b row0) st.next := by
  have hlt : b < st.next := by
    refine Nat.lt_of_not_le fun hle => ?_
    rw [h.mem.dom _ hle] at hO
    cases hO
  refine MStep.turn h.mem (d := b) (i0 := b) (row0 := row0) (O0 := O) (Nat.le_refl _) (by omega) (fun i => ?_) (.inr hO) (fun i row' hi => ?_) (.inr (.inr ⟨row, O, hb, hO, hz, rfl⟩)) rfl rfl rfl (by simp) (fun b' hb' hne => setRow_other _ _ _ _ (fun e => hne row O hb hO hz e.symm)) (fun G' hk => hst G' hk (setRow_heap w O.b cur new ty (0, 0) hh))
  · split
    · rename_i e; rw [e, hO]
    · rfl
  · rw [lookup_set] at hi
    split at hi
    · rename_i e; exact .inl ⟨e, (Option.some.inj hi).symm⟩
    · rename_i e; exact .inr ⟨e, e, hi⟩
set_option maxHeartbeats 1000000 in
theorem sopM_run {o : Oper} {tv : TV} {σ' : Store} {n' : Nat} (h : Inv ds N W X H β st a w) (e : sopM P st o = some (tv, σ', n')) : Did P H w β st o a tv σ' n' := by
  obtain ⟨dst, op, ty, pos, after, guard⟩ := o
  unfold sopM at e
  cases op with
  | build t parts =>
    obtain ⟨ps, hps, e⟩ := Option.bind_eq_some_iff.1 e
    obtain ⟨z, hz, e⟩ := Option.bind_eq_some_iff.1 e
    obtain ⟨pl, hpl, e⟩ := Option.bind_eq_some_iff.1 e
    obtain ⟨cs, hcs, e⟩ := Option.map_eq_some_iff.1 e
    simp only [Prod.mk.injEq] at e
    obtain ⟨rfl, rfl, rfl⟩ := e
    obtain ⟨i, zv, hi, hzv, hzl⟩ := zeroP_ok (w := w) (G := st.G H β) (β := β) hz
    obtain ⟨us', hf, hl⟩ := fillP_ok (pl[·]?) (h.parts_ hps) hzl hcs
    have hb : P.built t (parts.map fun (i, x) => (i, a.eval x)).toList = some us' := by
      unfold placesP at hpl
      split at hpl
      · rename_i fs hs
        unfold Program.built
        simp only [hi, hs, hzv, hpl]
        rw [Array.toList_map]
        simpa using hf
      · cases hpl
    refine Did.value (v := .agg us') (β' := β) (w' := w) ?_ (MStep.grow h.mem (Ext.refl w) (Nat.le_refl _)) (.agg hl)
    exact ok_v (s := Instr.build t (parts.map fun (i, x) => (i, a.eval x))) (run_build w t _ us' hb)
  | buildSlice t len parts =>
    obtain ⟨el, he, e⟩ := Option.bind_eq_some_iff.1 e
    obtain ⟨k, hk, e⟩ := Option.bind_eq_some_iff.1 e
    obtain ⟨z, hz, e⟩ := Option.bind_eq_some_iff.1 e
    obtain ⟨ps, hps, e⟩ := Option.bind_eq_some_iff.1 e
    split at e
    · rename_i hcond
      obtain ⟨rows, hrows, e⟩ := Option.bind_eq_some_iff.1 e
      split at e
      rotate_left
      · cases e
      rename_i hfree
      simp only [Option.some.injEq, Prod.mk.injEq] at e
      obtain ⟨rfl, rfl, rfl⟩ := e
      obtain ⟨i, zv, hi, hzv, hzl⟩ := zeroP_ok (w := w) (G := st.G H β) (β := β) hz
      have hsz : i.size = k := by
        unfold sizeP at hk
        rw [hi] at hk
        simpa using hk
      have hzs : zv.cells.size = k := by rw [← Array.length_toList, hzl.1, hcond.1]
      have hu : P.underlying t = some (.slice el) := by
        unfold elemD at he
        split at he
        · rename_i e' hs
          obtain rfl := Option.some.inj he
          exact hs
        · cases he
      by_cases hl0 : len = 0
      · subst hl0
        have hr0 : rows = [] := by
          cases ps with
          | nil => simpa [fillR] using hrows.symm
          | cons p ps =>
            obtain ⟨j, tv⟩ := p
            simp only [fillR, List.replicate_zero, List.length_nil, Option.bind_eq_some_iff] at hrows
            obtain ⟨c, _, hrows⟩ := hrows
            rw [if_neg (by simp)] at hrows
            cases hrows
        subst hr0
        have hp0 : parts.toList = [] := by
          cases hpl : parts.toList with
          | nil => rfl
          | cons p pl =>
            rw [hpl] at hps
            obtain ⟨j, x⟩ := p
            simp only [SSt.parts, Option.bind_eq_some_iff, Option.map_eq_some_iff] at hps
            obtain ⟨v, hv, r, hr, rfl⟩ := hps
            simp only [fillR, List.replicate_zero, List.length_nil, Option.bind_eq_some_iff] at hrows
            obtain ⟨c, _, hrows⟩ := hrows
            rw [if_neg (by simp)] at hrows
            cases hrows
        have hp1 : parts = #[] := Array.toList_inj.1 hp0
        subst hp1
        obtain ⟨hI, hR⟩ := h.row_new (rows := []) (us := []) (k := k) (by simp) RepL.nil_ el
        refine Did.value (β' := β) ?_ hI hR
        have e0 : ∀ f : Nat → Value, (Array.range 0).map f = #[] := fun f => Array.eq_empty_of_size_eq_zero (by simp)
        unfold execOp
        simp [Instr.buildSlice, run_underlying hu, sizeOf, typeInfo, hi, newRow, Instr.fill, e0]
      · have hpos : ¬ len * i.size = 0 := by
          rw [hsz]
          exact Nat.pos_iff_ne_zero.1 (Nat.mul_pos (by omega) hcond.2.1)
        have hkz : ∀ r ∈ List.replicate len z, r.length = k := by
          intro r hr
          rw [(List.mem_replicate.1 hr).2]; exact hcond.1
        have hstart : RepL w (st.G H β) β (List.replicate len z).flatten ((Array.range (len * k)).map (zv.cells[· % zv.cells.size]!)).toList := by
          have hfl := flat_len hkz
          rw [List.length_replicate] at hfl
          refine ⟨by rw [hfl]; simp, fun q p u hp hu => ?_⟩
          have hq : q < len * k := by rw [← hfl]; exact (List.getElem?_eq_some_iff.1 hp).1
          have hk0 := hcond.2.1
          have hdiv : q / k < len := Nat.div_lt_of_lt_mul (by rw [Nat.mul_comm]; exact hq)
          have hmod := Nat.mod_lt q hk0
          have hqe : q / k * k + q % k = q := Nat.div_add_mod' q k
          have hrow : (List.replicate len z)[q / k]? = some z := by rw [List.getElem?_replicate, if_pos hdiv]
          have h1 := flat_get hkz hrow (q % k) hmod
          rw [hqe, hp] at h1
          have hlt : q % k < zv.cells.toList.length := by rw [Array.length_toList, hzs]; exact hmod
          have hu' : u = zv.cells.toList[q % k] := by
            have : ((Array.range (len * k)).map (zv.cells[· % zv.cells.size]!)).toList[q]? = some (zv.cells[q % zv.cells.size]!) := by
              rw [Array.toList_map, List.getElem?_map, Array.toList_range, List.getElem?_range hq]; rfl
            rw [this] at hu
            have := Option.some.inj hu
            rw [← this, hzs]
            have hlt' : q % k < zv.cells.size := by rw [hzs]; exact hmod
            simp [getElem!_pos zv.cells (q % k) hlt']
          exact hzl.2 (q % k) p u h1.symm (by rw [hu']; exact List.getElem?_eq_getElem hlt)
        obtain ⟨us', hf, hl, hkk, hlen⟩ := fillR_ok (h.parts_ hps) hkz hstart hrows
        rw [List.length_replicate] at hlen
        obtain ⟨hI, hR⟩ := h.row_new hkk (hl.other (by rw [← freess_flat]; exact hfree)) el
        refine Did.value (β' := β) ?_ hI hR
        rw [hlen]
        have hf' : Instr.fill (fun i' => some (i' * i.size, i.size)) ((Array.range (len * i.size)).map (zv.cells[· % zv.cells.size]!)) (parts.map fun (i, x) => (i, a.eval x)).toList = some us' := by
          rw [hsz, Array.toList_map]; exact hf
        rw [Array.toArray_toList]
        exact ok_w (s := Instr.buildSlice t len (parts.map fun (i, x) => (i, a.eval x))) (run_buildSlice w t el len _ us' i zv hu hi hzv (by rw [hsz]; have := hcond.2.2; omega) hpos hf')
    · cases e
  | alloc el =>
    obtain ⟨z, hz, e⟩ := Option.map_eq_some_iff.1 e
    simp only [Prod.mk.injEq] at e
    obtain ⟨rfl, rfl, rfl⟩ := e
    obtain ⟨i, zv, hi, hzv, hzl⟩ := zeroP_ok (w := w) (G := st.G H β) (β := β) hz
    obtain ⟨β', hI, hR⟩ := h.box_new hzl el
    refine Did.value ?_ hI hR
    rw [Array.toArray_toList]
    refine ok_w (s := Instr.alloc el true (.tuple #[])) ?_
    simp [Instr.alloc, zeroValue, typeInfo, hi, hzv, newVar, newRow]
  | box el x =>
    obtain ⟨tv', hx, e⟩ := Option.bind_eq_some_iff.1 e
    obtain ⟨cs, hc, e⟩ := Option.map_eq_some_iff.1 e
    simp only [Prod.mk.injEq] at e
    obtain ⟨rfl, rfl, rfl⟩ := e
    have hcl := (h.eval hx).cells_ hc
    obtain ⟨β', hI, hR⟩ := h.box_new hcl el
    refine Did.value ?_ hI hR
    rw [Array.toArray_toList]
    refine ok_w (s := Instr.box el (a.eval x)) ?_
    simp [Instr.box, newVar, newRow]
  | store t x y =>
    obtain ⟨v, hy, e⟩ := Option.bind_eq_some_iff.1 e
    obtain ⟨cs, hc, e⟩ := Option.bind_eq_some_iff.1 e
    have hcl := (h.eval hy).cells_ hc
    have hlen : (a.eval y).cells.size = cs.length := by rw [← Array.length_toList]; exact hcl.1
    split at e
    rotate_left
    · cases e
    rename_i hsz
    have run : ∀ (bb off : Nat) (cur : Array Value) (ty' : TypeId), w.heap[bb]? = some (.cells cur ty' (0, 0)) → off + cs.length ≤ cur.size → a.eval x = .pointer (some ⟨bb, off, none⟩) →
        (Instr.storeAt t (a.eval x) (a.eval y)).run P w = .ok () (w.setRow bb (cur.toList.take off ++ (a.eval y).cells.toList ++ cur.toList.drop (off + cs.length)).toArray) := by
      intro bb off cur ty' hh hle hv
      have hst := run_storeCells_at (P := P) bb off ty' (a.eval y).cells.toList 0 cur w hh (by rw [hcl.1]; simpa using hle) hcl.one_
      rw [hv]
      unfold Instr.storeAt
      rw [Sem.run_bind]
      simp only [Instr.sureAddr, Sem.run, pure, Result.andThen_ok]
      unfold storeVar
      rw [Sem.run_bind, run_size hsz, Result.andThen_ok]
      simp only [hlen, ne_eq, not_true_eq_false, if_false]
      rw [hst]
      simp [hlen]
    have addr : ∀ (bb off : Nat), ((⟨bb, 0, none⟩ : Addr).add off) = ⟨bb, off, none⟩ := fun bb off => by unfold Addr.add; split <;> simp_all
    split at e
    · rename_i b off hx
      split at e
      rotate_left
      · cases e
      rename_i xs hb
      split at e
      rotate_left
      · cases e
      rename_i hle
      simp only [Option.some.injEq, Prod.mk.injEq] at e
      obtain ⟨rfl, rfl, rfl⟩ := e
      obtain ⟨O, hO, hz, hv⟩ := (h.eval hx).box_
      obtain ⟨ty', us, hh, hu⟩ := h.var_ hb hO
      have hr := run O.b off us.toArray ty' hh (by rw [List.size_toArray, hu.1]; exact hle) (by rw [hv]; unfold Own.at; rw [addr])
      refine Did.skip (by show (do Instr.storeAt t (a.eval x) (a.eval y); pure Next.skip : Sem Next).run P w = _; rw [ok_bind_ hr]; rfl) (h.write hb hO hz hh _ fun G' hk h2 => ⟨hz, ty', _, h2, ?_⟩)
      have := ((hu.take off).append hcl).append (hu.drop (off + cs.length))
      exact this.mono hk
    · rename_i b i off hx
      split at e
      rotate_left
      · cases e
      rename_i el k rows hb
      obtain ⟨r, hr, e⟩ := Option.bind_eq_some_iff.1 e
      split at e
      rotate_left
      · cases e
      rename_i hle
      simp only [Option.some.injEq, Prod.mk.injEq] at e
      obtain ⟨rfl, rfl, rfl⟩ := e
      obtain ⟨O, hO, hz, hv⟩ := (h.eval hx).elp_
      obtain ⟨hkk, cur, us, h1, h2, h3, h4, h5, h6, h7⟩ := h.mem.own_ hb hO hz
      have hin : i < rows.length := (List.getElem?_eq_some_iff.1 hr).1
      have hrl : r.length = O.k := h5 r (List.mem_of_getElem? hr)
      have hmul : i * O.k + O.k ≤ rows.length * O.k := by
        have := Nat.mul_le_mul_right O.k (show i + 1 ≤ rows.length from hin)
        rwa [Nat.add_mul, Nat.one_mul] at this
      have hcap : rows.length * O.k ≤ cur.size := by rw [h2]; exact Nat.mul_le_mul_right _ h4
      have hrun := run O.b (i * O.k + off) cur el h1 (by have := hle.1; omega) (by rw [hv]; unfold Own.at; rw [addr])
      refine Did.skip (by show (do Instr.storeAt t (a.eval x) (a.eval y); pure Next.skip : Sem Next).run P w = _; rw [ok_bind_ hrun]; rfl) (h.write hb hO hz h1 _ fun G' hk h9 => .inr ⟨hz, hkk, _, _, h9, ?_, h3, by simpa using h4, ?_, rfl, ?_⟩)
      · have := hle.1
        simp only [List.size_toArray, List.length_append, List.length_take, List.length_drop, Array.length_toList, hlen]
        omega
      · intro r' hr'
        rcases List.mem_or_eq_of_mem_set hr' with h | rfl
        · exact h5 r' h
        · have := hle.1
          simp only [List.length_append, List.length_take, List.length_drop]
          omega
      · rw [List.length_set]
        have hlr : (r.take off ++ cs ++ r.drop (off + cs.length)).length = O.k := by
          have := hle.1
          simp only [List.length_append, List.length_take, List.length_drop]
          omega
        rw [flat_set h5 hin hlr]
        have hfl := flat_len h5
        have hus : us.length = rows.length * O.k := by rw [h7.1, hfl]
        have hro := row_of_flat h5 hr
        have e0 : rows.flatten.take (i * O.k) ++ (r.take off ++ cs ++ r.drop (off + cs.length)) ++ rows.flatten.drop (i * O.k + O.k) = rows.flatten.take (i * O.k + off) ++ cs ++ rows.flatten.drop (i * O.k + off + cs.length) := by
          conv => lhs; rw [hro]
          exact splice rows.flatten cs (i * O.k) off cs.length O.k (by have := hle.1; omega)
        rw [e0, List.toList_toArray, take_splice cur.toList (a.eval y).cells.toList (i * O.k + off) cs.length (rows.length * O.k) hcl.1 (by have := hle.1; omega) (by rw [Array.length_toList]; exact hcap), h6]
        have hcn := hcl.other (β' := noIds) hle.2
        exact (((h7.take (i * O.k + off)).append (hcn)).append (h7.drop (i * O.k + off + cs.length))).mono hk
    · cases e
  | _ => cases e
end
end Go.Proofs.YtbljhngekhgbbaaGreat
namespace Go.Proofs.YtbljhngekhgbbaaGreat
open Go.RowKit
set_option linter.unusedVariables false
set_option linter.unusedSectionVars false
set_option linter.unusedSimpArgs false
/-- the elements of a slice -/
def SSt.rows? (st : SSt) (x : Operand) : Option (List (List PV)) := match st.eval x with
  | some (.one (.sl _ ys)) => some ys
  | some (.one (.osl id o n)) => match st.boxes.lookup id with
    | some (.own _ _ rows) => if o + n ≤ rows.length then some ((rows.drop o).take n) else none
    | _ => none
  | _ => none
/-- where it is appended to: the row that goes, the elements that are there -/
def SSt.dest? (st : SSt) (x : Operand) (e : TypeId) (k : Nat) : Option (Option Nat × List (List PV)) := match st.eval x with
  | some (.one (.sl true rows)) => some (none, rows)
  | some (.one (.osl id 0 n)) => match st.boxes.lookup id with
    | some (.own e' k' rows) => if e' = e ∧ k' = k ∧ n ≤ rows.length then some (some id, rows.take n) else none
    | _ => none
  | _ => none
def rmO (σ : Store) : Option Nat → Store
  | none => σ
  | some d => Store.rm σ d
def bytesP (P : Program) (t : TypeId) : Option Nat := (P.info? t).map (·.bytes)
/-- an element's type: one cell or more; its zero value has as many -/
def elemOk (P : Program) (e : TypeId) (k : Nat) : Bool := match P.info? e with
  | some i => i.size == k && k != 0 && (match i.zero with
    | some z => z.cells.size == k
    | none => false)
  | none => false
def appS (P : Program) (st : SSt) (t : TypeId) (s x : Operand) : Option (TypeId × Nat × Nat × Option Nat × List (List PV) × List (List PV)) :=
  (elemD P t).bind fun e => (sizeP P e).bind fun k => (bytesP P e).bind fun b => if elemOk P e k = true then (st.dest? s e k).bind fun q => (st.rows? x).map fun ys => (e, k, b, q.1, q.2, ys) else none
section
variable {ds : List Deferred} {P : Program} {N : Nat} {W w w' : World} {H : Addr → Prop} {β : Ids} {X : Nat → Prop} {st : SSt} {a : Act} {G : Addr → Prop}
theorem run_append_zero {t ty e : TypeId} (ht : P.underlying t = some (.slice e)) {i : TypeInfo} (hi : P.info? e = some i) {A B : Option Addr} {n c c' : Nat} (hn : n ≤ c) (w : World) :
    (Builtin.append_ #[t, t] ty #[.slice A n c, .slice B 0 c']).run P w = .ok (.slice A n c) w := by
  cases A <;> cases B <;> simp [Builtin.append_, run_underlying ht, sizeOf, typeInfo, hi, Builtin.lenOf, Builtin.firstCells, hn, storeCells, loadCells, loadCellsFrom]
theorem cut_rows {rows : List (List PV)} {us : List Value} {k l h : Nat} (hall : ∀ r ∈ rows, r.length = k) (hl : RepL w G noIds rows.flatten us) (h1 : l ≤ h) (h2 : h ≤ rows.length) :
    RepL w G noIds ((rows.take h).drop l).flatten ((us.drop (l * k)).take ((h - l) * k)) ∧ (∀ i u, ((us.drop (l * k)).take ((h - l) * k))[i]? = some u → us[l * k + i]? = some u) := by
  have hlen : ((rows.take h).drop l).length = h - l := by rw [List.length_drop, List.length_take]; omega
  have hfl := flat_len hall
  have hall2 : ∀ r ∈ (rows.take h).drop l, r.length = k := fun r hr => hall r (List.mem_of_mem_take (List.mem_of_mem_drop hr))
  have hfl2 := flat_len hall2
  have hget : ∀ i p, ((rows.take h).drop l).flatten[i]? = some p → rows.flatten[l * k + i]? = some p := by
    intro i p hp
    have hi : i < ((rows.take h).drop l).length * k := by rw [← hfl2]; exact (List.getElem?_eq_some_iff.1 hp).1
    have hk0 : 0 < k := by
      rcases Nat.eq_zero_or_pos k with h | h
      · rw [h] at hi; omega
      · exact h
    have hq : i / k < ((rows.take h).drop l).length := Nat.div_lt_of_lt_mul (by rw [Nat.mul_comm]; exact hi)
    have hr : ((rows.take h).drop l)[i / k]? = some ((rows.take h).drop l)[i / k] := List.getElem?_eq_getElem hq
    have hm := Nat.mod_lt i hk0
    have hdm : i / k * k + i % k = i := Nat.div_add_mod' i k
    have g1 := flat_get hall2 hr (i % k) hm
    rw [hdm, hp] at g1
    rw [List.getElem?_drop, List.getElem?_take] at hr
    split at hr
    · have g2 := flat_get hall hr (i % k) hm
      rw [Nat.add_mul, Nat.add_assoc, hdm] at g2
      rw [g2, ← g1]
    · cases hr
  have hsub : ∀ i u, ((us.drop (l * k)).take ((h - l) * k))[i]? = some u → us[l * k + i]? = some u := by
    intro i u hu
    rw [List.getElem?_take] at hu
    split at hu
    · rwa [List.getElem?_drop] at hu
    · cases hu
  refine ⟨⟨?_, fun i p u hp hu => hl.2 _ _ _ (hget i p hp) (hsub i u hu)⟩, hsub⟩
  rw [List.length_take, List.length_drop, hl.1, hfl, hfl2, hlen, Nat.sub_mul]
  have := Nat.mul_le_mul_right k h2
  have := Nat.mul_le_mul_right k h1
  omega
/-- the elements that are appended stand in the world -/
theorem Inv.src_ (h : Inv ds N W X H β st a w) {x : Operand} {ys : List (List PV)} (e : st.rows? x = some ys) : ∃ B c, a.eval x = .slice B ys.length c ∧ ys.length ≤ c ∧
    (ys ≠ [] → ∃ (ad : Addr) (us : List Value) (k : Nat), B = some ad ∧ (∀ r ∈ ys, r.length = k) ∧ RepL w (st.G H β) noIds ys.flatten us ∧ ∀ (i : Nat) (u : Value), us[i]? = some u → w.cell? (ad.add i) = some u) := by
  unfold SSt.rows? at e
  split at e
  · rename_i x' rows hx
    obtain rfl := Option.some.inj e
    obtain ⟨A, c, hv, hc, -, -, hrow⟩ := (h.eval hx).sl_
    exact ⟨A, c, hv, hc, fun hne => by
      obtain ⟨ad, us, k, h1, h2, h3, h4⟩ := hrow hne
      exact ⟨ad, us, k, h1, h2, h3, fun i u hu => (h4 i u hu).1⟩⟩
  · rename_i id o n hx
    split at e
    · rename_i e' k' rows hb
      split at e
      · rename_i hle
        obtain rfl := Option.some.inj e
        have hlen : ((rows.drop o).take n).length = n := by rw [List.length_take, List.length_drop]; omega
        obtain ⟨O, hO, hcase⟩ := (h.eval hx).osl_
        rcases hcase with ⟨hz, hn, hv⟩ | ⟨hz, rfl, rfl, A, hv⟩
        · obtain ⟨hkk, cur, us, h1, h2, h3, h4, h5, h6, h7⟩ := h.mem.own_ hb hO hz
          have hc := cut_rows (l := o) (h := o + n) h5 h7 (by omega) hle
          have e1 : (rows.take (o + n)).drop o = (rows.drop o).take n := by rw [List.drop_take]; congr 1; omega
          rw [e1] at hc
          refine ⟨_, _, by rw [hlen]; exact hv, by rw [hlen]; omega, fun _ => ⟨_, _, O.k, rfl, fun r hr => h5 r (List.mem_of_mem_drop (List.mem_of_mem_take hr)), hc.1, fun i u hu => ?_⟩⟩
          rw [Own.at_add]
          unfold Own.at
          rw [cell_at' h1]
          have := hc.2 i u hu
          rw [← h6, List.getElem?_take] at this
          split at this
          · exact this
          · cases this
        · exact ⟨A, 0, by rw [hlen]; exact hv, by rw [hlen]; exact Nat.le_refl _, fun hne => absurd (List.eq_nil_of_length_eq_zero hlen) hne⟩
      · cases e
    · cases e
  · cases e
theorem elemOk_ {e : TypeId} {k : Nat} (h : elemOk P e k = true) : ∃ i z, P.info? e = some i ∧ i.zero = some z ∧ i.size = k ∧ k ≠ 0 ∧ z.cells.size = k := by
  unfold elemOk at h
  split at h
  · rename_i i hi
    simp only [Bool.and_eq_true, beq_iff_eq, bne_iff_ne, ne_eq] at h
    obtain ⟨⟨h1, h2⟩, h3⟩ := h
    split at h3
    · rename_i z hz
      exact ⟨i, z, hi, hz, h1, h2, by simpa using h3⟩
    · cases h3
  · cases h
end
end Go.Proofs.YtbljhngekhgbbaaGreat
namespace Go.Proofs.YtbljhngekhgbbaaGreat
open Go.RowKit
set_option linter.unusedVariables false
set_option linter.unusedSectionVars false
set_option linter.unusedSimpArgs false
section
variable {ds : List Deferred} {P : Program} {N n : Nat} {W w w' : World} {H : Addr → Prop} {β : Ids} {X : Nat → Prop} {st : SSt} {a : Act} {G : Addr → Prop} {σ : Store}
theorem app_turn (h : MemI w H β σ n) {d : Option Nat} {e : TypeId} {k : Nat} {rs : List (List PV)} {O0 : Own}
    (hO : O0.z = true ∨ w.heap.size ≤ O0.b ∨ ∃ i rd Od, d = some i ∧ σ.lookup i = some rd ∧ β i = some Od ∧ Od.z = false ∧ Od.b = O0.b)
    (hos : w'.os = w.os) (htp : w'.tape = w.tape) (hout : w'.output = w.output) (hsz : w.heap.size ≤ w'.heap.size)
    (hblk : ∀ b, b < w.heap.size → (∀ i rd Od, d = some i → σ.lookup i = some rd → β i = some Od → Od.z = false → Od.b ≠ b) → w'.heap[b]? = w.heap[b]?)
    (hst : ∀ (G' : Addr → Prop) (β' : Ids), (∀ q u, w.cell? q = some u → gOf H β σ q → w'.cell? q = some u ∧ G' q) → (Row.own e k rs).Stands w' G' β' O0) :
    ∃ β', MStep H w β σ n w' β' ((n, .own e k rs) :: rmO σ d) (n + 1) ∧ β' n = some O0 := by
  refine ⟨fun i => if i = n then some O0 else β i, ?_, by simp⟩
  refine MStep.turn h (d := d.getD n) (i0 := n) (row0 := .own e k rs) (O0 := O0) (Nat.le_succ _) (Nat.lt_succ_self _) (fun i => rfl) (.inl (Nat.le_refl _)) (fun i row hi => ?_) ?_ hos htp hout hsz (fun b hb hne => hblk b hb ?_) (fun G' hk => hst G' _ hk)
  · rw [List.lookup_cons] at hi
    by_cases e : i = n
    · subst e; simp at hi; exact .inl ⟨rfl, hi.symm⟩
    · have e' : (i == n) = false := by simpa using e
      rw [e'] at hi
      cases d with
      | none => exact .inr ⟨e, e, hi⟩
      | some d =>
        simp only [rmO] at hi
        rw [lookup_rm] at hi
        split at hi
        · cases hi
        · rename_i e2; exact .inr ⟨e, e2, hi⟩
  · rcases hO with hO | hO | ⟨i, rd, Od, rfl, k1, k2, k3, k4⟩
    · exact .inl hO
    · exact .inr (.inl hO)
    · exact .inr (.inr ⟨rd, Od, k1, k2, k3, k4⟩)
  · intro i rd Od hd k1 k2 k3
    subst hd
    exact hne rd Od k1 k2 k3
/-- a new block -/
theorem app_grow (h : Inv ds N W X H β st a w) {t ty e : TypeId} {k n m c c' b : Nat} {i : TypeInfo} {z : Value} {A : Option Addr} {ad : Addr} {olds news : List Value} {d : Option Nat} {rows ys : List (List PV)} (ht : P.underlying t = some (.slice e))
    (hi : P.info? e = some i) (hz : i.zero = some z) (hsk : i.size = k) (hk0 : k ≠ 0) (hzk : z.cells.size = k) (hb : bytesP P e = some b) (hn : rows.length = n) (hm : ys.length = m) (hm0 : 0 < m) (hA : A = none → n = 0 ∧ c = 0)
    (ho : ∀ ad, A = some ad → ∀ (j : Nat) (u : Value), olds[j]? = some u → w.cell? (ad.add j) = some u) (hc : ∀ (j : Nat) (u : Value), news[j]? = some u → w.cell? (ad.add j) = some u)
    (r1 : ∀ r ∈ rows, r.length = k) (r2 : ∀ r ∈ ys, r.length = k) (l1 : RepL w (st.G H β) noIds rows.flatten olds) (l2 : RepL w (st.G H β) noIds ys.flatten news) (hgt : c < n + m) (hbytes : (n + m) * b ≤ 140737488355328) (hmax : n + m ≤ maxLen) :
    ∃ v w' β', (Builtin.append_ #[t, t] ty #[.slice A n c, .slice (some ad) m c']).run P w = .ok v w' ∧ MStep H w β st.boxes st.next w' β' ((st.next, .own e k (rows ++ ys)) :: rmO st.boxes d) (st.next + 1) ∧
      RepT w' (gOf H β' ((st.next, .own e k (rows ++ ys)) :: rmO st.boxes d)) β' (.one (.osl st.next 0 (n + m))) v := by
  have hbi : i.bytes = b := by unfold bytesP at hb; rw [hi] at hb; simpa using hb
  have hf1 := flat_len r1
  have hf2 := flat_len r2
  have hlo : olds.length = n * i.size := by rw [l1.1, hf1, hn, hsk]
  have hln : news.length = m * i.size := by rw [l2.1, hf2, hm, hsk]
  have h63 : ((n + m : Nat) : Int) ≤ 9223372036854775807 := by simp only [maxLen] at hmax; omega
  have hrun : (Builtin.append_ #[t, t] ty #[.slice A n c, .slice (some ad) m c']).run P w = .ok (.slice (some ⟨w.heap.size, 0, none⟩) (n + m) (grownCap w (n + m) c e)) (w.drew.alloc (.cells (olds.toArray ++ news.toArray ++ Builtin.zeroCells z.cells (grownCap w (n + m) c e - (n + m))) e)) := by
    cases A with
    | none =>
      obtain ⟨rfl, rfl⟩ := hA rfl
      have h0 : olds = [] := List.eq_nil_of_length_eq_zero (by rw [hlo]; simp)
      have := run_append_nil (P := P) w t ty e i z ht hi hz ad m c' news hln hc hm0 (by simpa using h63) (by rw [hbi]; simp at hbytes; omega)
      rw [this, h0]
      simp
    | some a0 => exact run_append_grow (P := P) w t ty e i z ht hi hz a0 n c olds hlo (ho a0 rfl) ad m c' news hln hc hgt h63 (growslice_fits hgt (by rw [hbi]; exact hbytes))
  have hge := grownCap_ge w (n + m) c e
  have hle := grownCap_le_maxLen w (n + m) c e hmax
  have hst : ∀ (G' : Addr → Prop) (β' : Ids), (∀ q u, w.cell? q = some u → gOf H β st.boxes q → (w.drew.alloc (.cells (olds.toArray ++ news.toArray ++ Builtin.zeroCells z.cells (grownCap w (n + m) c e - (n + m))) e)).cell? q = some u ∧ G' q) →
      (Row.own e k (rows ++ ys)).Stands (w.drew.alloc (.cells (olds.toArray ++ news.toArray ++ Builtin.zeroCells z.cells (grownCap w (n + m) c e - (n + m))) e)) G' β' ⟨w.heap.size, grownCap w (n + m) c e, k, false⟩ := by
    intro G' β' hk
    refine .inr ⟨rfl, rfl, _, olds ++ news, by show (w.heap.push _)[w.heap.size]? = _; rw [Array.getElem?_push_size], ?_, hle, by rw [List.length_append, hn, hm]; exact hge, ?_, ?_, ?_⟩
    · simp only [Array.size_append, List.size_toArray, size_zeroCells, hlo, hln, hzk, hsk]
      rw [← Nat.add_mul, ← Nat.add_mul]
      congr 1
      omega
    · intro r hr
      rcases List.mem_append.1 hr with h | h
      · exact r1 r h
      · exact r2 r h
    · have e1 : (olds.toArray ++ news.toArray ++ Builtin.zeroCells z.cells (grownCap w (n + m) c e - (n + m))).toList = (olds ++ news) ++ (Builtin.zeroCells z.cells (grownCap w (n + m) c e - (n + m))).toList := by simp
      rw [e1]
      refine List.take_left' ?_
      rw [List.length_append, List.length_append, hlo, hln, hn, hm, hsk, Nat.add_mul]
    · rw [List.flatten_append]
      exact (l1.append l2).mono hk
  obtain ⟨β', hm', hβ⟩ := app_turn (w' := w.drew.alloc (.cells (olds.toArray ++ news.toArray ++ Builtin.zeroCells z.cells (grownCap w (n + m) c e - (n + m))) e)) h.mem (d := d) (e := e) (k := k) (rs := rows ++ ys) (O0 := ⟨w.heap.size, grownCap w (n + m) c e, k, false⟩)
    (.inr (.inl (Nat.le_refl _))) rfl rfl rfl (by simp) (fun b hb _ => Below.heap_alloc w.drew _ b hb) hst
  refine ⟨_, _, β', hrun, hm', ?_⟩
  have := RepP.osl (w := w.drew.alloc (.cells (olds.toArray ++ news.toArray ++ Builtin.zeroCells z.cells (grownCap w (n + m) c e - (n + m))) e)) (G := gOf H β' ((st.next, .own e k (rows ++ ys)) :: rmO st.boxes d)) (o := 0) (n := n + m) hβ rfl (by simpa using hge)
  have e0 : Own.at ⟨w.heap.size, grownCap w (n + m) c e, k, false⟩ (0 * k) = ⟨w.heap.size, 0, none⟩ := by rw [Nat.zero_mul]; rfl
  rw [e0] at this
  exact .one this
end
end Go.Proofs.YtbljhngekhgbbaaGreat
namespace Go.Proofs.YtbljhngekhgbbaaGreat
open Go.RowKit
set_option linter.unusedVariables false
set_option linter.unusedSectionVars false
set_option linter.unusedSimpArgs false
section
variable {ds : List Deferred} {P : Program} {N n : Nat} {W w w' : World} {H : Addr → Prop} {β : Ids} {X : Nat → Prop} {st : SSt} {a : Act} {G : Addr → Prop} {σ : Store}
theorem Own.at0 (O : Own) : O.at (0 * O.k) = ⟨O.b, 0, none⟩ := by rw [Nat.zero_mul]; rfl
/-- in place -/
theorem app_in (h : Inv ds N W X H β st a w) {t ty e : TypeId} {k n m c' id : Nat} {i : TypeInfo} {ad : Addr} {news : List Value} {O : Own} {rows0 ys : List (List PV)} (ht : P.underlying t = some (.slice e)) (hi : P.info? e = some i) (hsk : i.size = k)
    (hlk : st.boxes.lookup id = some (.own e k rows0)) (hO : β id = some O) (hz : O.z = false) (hn : n ≤ rows0.length) (hm : ys.length = m)
    (hc : ∀ (j : Nat) (u : Value), news[j]? = some u → w.cell? (ad.add j) = some u) (r2 : ∀ r ∈ ys, r.length = k) (l2 : RepL w (st.G H β) noIds ys.flatten news) (hroom : n + m ≤ O.c) :
    ∃ v w' β', (Builtin.append_ #[t, t] ty #[.slice (some ⟨O.b, 0, none⟩) n O.c, .slice (some ad) m c']).run P w = .ok v w' ∧ MStep H w β st.boxes st.next w' β' ((st.next, .own e k (rows0.take n ++ ys)) :: rmO st.boxes (some id)) (st.next + 1) ∧
      RepT w' (gOf H β' ((st.next, .own e k (rows0.take n ++ ys)) :: rmO st.boxes (some id))) β' (.one (.osl st.next 0 (n + m))) v := by
  obtain ⟨hkk, cur, us, h1, h2, h3, h4, h5, h6, h7⟩ := h.mem.own_ hlk hO hz
  have hcr := cut_rows (l := 0) (h := n) h5 h7 (Nat.zero_le _) hn
  simp only [List.drop_zero, Nat.zero_mul, Nat.sub_zero] at hcr
  have r1 : ∀ r ∈ rows0.take n, r.length = k := fun r hr => by rw [h5 r (List.mem_of_mem_take hr), hkk]
  have hln : news.length = m * i.size := by rw [l2.1, flat_len r2, hm, hsk]
  have hlx : (us.take (n * O.k)).length = n * i.size := by rw [hcr.1.1, flat_len r1, hsk, List.length_take]; congr 1; omega
  have hmul : n * O.k ≤ rows0.length * O.k := Nat.mul_le_mul_right _ hn
  have hown : w.ownsRow 0 e i.size (.slice (some ⟨O.b, 0, none⟩) n O.c) n (us.take (n * O.k)) :=
    ⟨hlx, .inr ⟨O.b, O.c, cur, rfl, Nat.zero_le _, h1, by omega, h3, by rw [h2, hkk, hsk], by rw [← h6, List.take_take, hsk, ← hkk, Nat.min_eq_left hmul]⟩⟩
  obtain ⟨w2, hrun, hown2, hg⟩ := run_append_fits (P := P) w 0 t ty e i i.size ht hi rfl O.b n O.c (us.take (n * O.k)) hown ad m c' news hln hc l2.one_ hroom
  obtain ⟨hlen2, hcase⟩ := hown2
  rcases hcase with ⟨hbad, _⟩ | ⟨g, cap, cur2, hv, _, g1, g2, g3, g4, g5⟩
  · cases hbad
  simp only [Value.slice.injEq, Option.some.injEq, Addr.mk.injEq, and_true, true_and] at hv
  obtain ⟨rfl, rfl⟩ := hv
  have hst : ∀ (G' : Addr → Prop) (β' : Ids), (∀ q u, w.cell? q = some u → gOf H β st.boxes q → w2.cell? q = some u ∧ G' q) → (Row.own e k (rows0.take n ++ ys)).Stands w2 G' β' O := by
    intro G' β' hk
    have hl : (rows0.take n ++ ys).length = n + m := by rw [List.length_append, List.length_take, hm]; omega
    refine .inr ⟨hz, hkk, cur2, us.take (n * O.k) ++ news, g1, by rw [g4, hkk, hsk], h3, by rw [hl]; exact hroom, ?_, ?_, ?_⟩
    · intro r hr
      rw [hkk]
      rcases List.mem_append.1 hr with h | h
      · exact r1 r h
      · exact r2 r h
    · have e3 : (n + m) * O.k = (n + m) * i.size := by rw [hkk, hsk]
      rw [hl, e3]; exact g5
    · rw [List.flatten_append]
      exact (hcr.1.append l2).mono hk
  obtain ⟨β', hm', hβ⟩ := app_turn (w' := w2) h.mem (d := some id) (e := e) (k := k) (rs := rows0.take n ++ ys) (O0 := O) (.inr (.inr ⟨id, _, O, rfl, hlk, hO, hz, rfl⟩)) hg.os hg.tape hg.output hg.size
    (fun b hb hne => hg.block b hb (fun e => hne id _ O rfl hlk hO hz (Option.some.inj e).symm)) hst
  refine ⟨_, w2, β', hrun, hm', ?_⟩
  have := RepP.osl (w := w2) (G := gOf H β' ((st.next, .own e k (rows0.take n ++ ys)) :: rmO st.boxes (some id))) (o := 0) (n := n + m) hβ hz (by omega)
  rw [Own.at0] at this
  exact .one this
/-- nothing is appended -/
theorem app_none (h : Inv ds N W X H β st a w) {d : Option Nat} {e : TypeId} {k n c : Nat} {A : Option Addr} {rows : List (List PV)} (hc : (n = 0 ∧ c = 0 ∧ rows = []) ∨ ∃ id O rows0, d = some id ∧ st.boxes.lookup id = some (.own e k rows0) ∧ β id = some O ∧ O.z = false ∧ n ≤ rows0.length ∧ rows = rows0.take n ∧ A = some ⟨O.b, 0, none⟩ ∧ c = O.c ∧ n ≤ O.c) :
    ∃ β', MStep H w β st.boxes st.next w β' ((st.next, .own e k rows) :: rmO st.boxes d) (st.next + 1) ∧ RepT w (gOf H β' ((st.next, .own e k rows) :: rmO st.boxes d)) β' (.one (.osl st.next 0 n)) (.slice A n c) := by
  rcases hc with ⟨rfl, rfl, rfl⟩ | ⟨id, O, rows0, rfl, hlk, hO, hz, hn, rfl, rfl, rfl, hnc⟩
  · obtain ⟨β', hm', hβ⟩ := app_turn (w' := w) h.mem (d := d) (e := e) (k := k) (rs := []) (O0 := ⟨0, 0, 0, true⟩) (.inl rfl) rfl rfl rfl (Nat.le_refl _) (fun _ _ _ => rfl) (fun G' β' hk => .inl ⟨rfl, rfl⟩)
    exact ⟨β', hm', .one (.osl0 hβ rfl)⟩
  · obtain ⟨hkk, cur, us, h1, h2, h3, h4, h5, h6, h7⟩ := h.mem.own_ hlk hO hz
    have hcr := cut_rows (l := 0) (h := n) h5 h7 (Nat.zero_le _) hn
    simp only [List.drop_zero, Nat.zero_mul, Nat.sub_zero] at hcr
    have hmul : n * O.k ≤ rows0.length * O.k := Nat.mul_le_mul_right _ hn
    have hst : ∀ (G' : Addr → Prop) (β' : Ids), (∀ q u, w.cell? q = some u → gOf H β st.boxes q → w.cell? q = some u ∧ G' q) → (Row.own e k (rows0.take n)).Stands w G' β' O := by
      intro G' β' hk
      refine .inr ⟨hz, hkk, cur, us.take (n * O.k), h1, h2, h3, by rw [List.length_take]; omega, fun r hr => h5 r (List.mem_of_mem_take hr), ?_, hcr.1.mono hk⟩
      rw [List.length_take, ← h6, List.take_take, Nat.min_eq_left hn, Nat.min_eq_left hmul]
    obtain ⟨β', hm', hβ⟩ := app_turn (w' := w) h.mem (d := some id) (e := e) (k := k) (rs := rows0.take n) (O0 := O) (.inr (.inr ⟨id, _, O, rfl, hlk, hO, hz, rfl⟩)) rfl rfl rfl (Nat.le_refl _) (fun _ _ _ => rfl) hst
    refine ⟨β', hm', ?_⟩
    have := RepP.osl (w := w) (G := gOf H β' ((st.next, .own e k (rows0.take n)) :: rmO st.boxes (some id))) (o := 0) (n := n) hβ hz (by omega)
    rw [Own.at0] at this
    exact .one this
/-- append -/
theorem append_did (h : Inv ds N W X H β st a w) {dst : Option Nat} {ty : TypeId} {pos : String} {af : Array Edge} {gd : Option (Nat × Bool)} {t e : TypeId} {k b : Nat} {d : Option Nat} {s x : Operand} {rows ys : List (List PV)} (hs : appS P st t s x = some (e, k, b, d, rows, ys)) (hne : d = none → rows = [] ∨ ys ≠ [])
    (hby : (rows.length + ys.length) * b ≤ 140737488355328) (hmax : rows.length + ys.length ≤ maxLen) (r1 : ∀ r ∈ rows, r.length = k) (r2 : ∀ r ∈ ys, r.length = k) :
    Did P H w β st ⟨dst, .call { callee := .builtin .append, args := #[s, x], argTypes := #[t, t] }, ty, pos, af, gd⟩ a (.one (.osl st.next 0 (rows.length + ys.length))) ((st.next, .own e k (rows ++ ys)) :: rmO st.boxes d) (st.next + 1) := by
  suffices hh : ∃ v w' β', (Builtin.append_ #[t, t] ty #[a.eval s, a.eval x]).run P w = .ok v w' ∧ MStep H w β st.boxes st.next w' β' ((st.next, .own e k (rows ++ ys)) :: rmO st.boxes d) (st.next + 1) ∧ RepT w' (gOf H β' ((st.next, .own e k (rows ++ ys)) :: rmO st.boxes d)) β' (.one (.osl st.next 0 (rows.length + ys.length))) v by
    obtain ⟨v, w', β', h1, h2, h3⟩ := hh
    refine Did.value ?_ h2 h3
    unfold execOp
    exact ok_w (s := Builtin.append_ #[t, t] ty (#[s, x].map a.eval)) (by simpa using h1)
  unfold appS at hs
  obtain ⟨e', he, hs⟩ := Option.bind_eq_some_iff.1 hs
  obtain ⟨k', hk, hs⟩ := Option.bind_eq_some_iff.1 hs
  obtain ⟨b', hb, hs⟩ := Option.bind_eq_some_iff.1 hs
  split at hs
  rotate_left
  · cases hs
  rename_i hok
  obtain ⟨⟨d', rows'⟩, hd, hs⟩ := Option.bind_eq_some_iff.1 hs
  obtain ⟨ys', hy, hs⟩ := Option.map_eq_some_iff.1 hs
  simp only [Prod.mk.injEq] at hs
  obtain ⟨rfl, rfl, rfl, rfl, rfl, rfl⟩ := hs
  obtain ⟨i, z, hi, hz, hsk, hk0, hzk⟩ := elemOk_ hok
  obtain ⟨B, c', hV, hc', hsrc⟩ := h.src_ hy
  have ht := elemD_ he
  rw [hV]
  unfold SSt.dest? at hd
  split at hd
  · rename_i rows1 hx
    simp only [Option.some.injEq, Prod.mk.injEq] at hd
    obtain ⟨rfl, rfl⟩ := hd
    obtain ⟨A, c, hv, hc, hxc, hA, hrow⟩ := (h.eval hx).sl_
    have hcc := hxc rfl
    subst hcc
    rw [hv]
    by_cases hy0 : ys' = []
    · subst hy0
      rcases hne rfl with h0 | h0
      · subst h0
        obtain ⟨β', h1, h2⟩ := app_none (e := e') (k := k') (A := A) (d := none) h (.inl ⟨rfl, rfl, rfl⟩)
        exact ⟨_, w, β', run_append_zero ht hi (Nat.le_refl _) w, h1, h2⟩
      · exact absurd rfl h0
    · obtain ⟨ad, us, k2, rfl, q1, q2, q3⟩ := hsrc hy0
      have hpos : 0 < ys'.length := List.length_pos_iff.2 hy0
      by_cases hr0 : rows1 = []
      · subst hr0
        refine app_grow h ht hi hz hsk hk0 hzk hb rfl rfl hpos (fun h => ⟨rfl, rfl⟩) (olds := []) (fun _ _ j u hu => by simp at hu) q3 (fun r hr => by simp at hr) r2 RepL.nil_ q2 (by omega) hby hmax
      · obtain ⟨a0, us0, k0, rfl, p1, p2, p3⟩ := hrow hr0
        exact app_grow h ht hi hz hsk hk0 hzk hb rfl rfl hpos (fun h => by cases h) (fun ad' had j u hu => by cases had; exact (p3 j u hu).1) q3 r1 r2 p2 q2 (by omega) hby hmax
  · rename_i id n hx
    split at hd
    · rename_i e1 k1 rows1 hlk
      split at hd
      · rename_i hcond
        obtain ⟨rfl, rfl, hn⟩ := hcond
        simp only [Option.some.injEq, Prod.mk.injEq] at hd
        obtain ⟨rfl, rfl⟩ := hd
        have hln : (rows1.take n).length = n := by rw [List.length_take]; omega
        obtain ⟨O, hO, hcase⟩ := (h.eval hx).osl_
        rcases hcase with ⟨hz', hnc, hv⟩ | ⟨hz', -, rfl, A, hv⟩
        · rw [Own.at0, Nat.sub_zero] at hv
          rw [hv]
          rw [hln] at hby hmax ⊢
          by_cases hy0 : ys' = []
          · subst hy0
            obtain ⟨β', h1, h2⟩ := app_none (A := some ⟨O.b, 0, none⟩) (d := some id) (n := n) (c := O.c) h (.inr ⟨id, O, rows1, rfl, hlk, hO, hz', hn, rfl, rfl, rfl, by omega⟩)
            refine ⟨_, w, β', run_append_zero ht hi (by omega) w, ?_, ?_⟩
            · rw [List.append_nil]; exact h1
            · rw [List.append_nil]; exact h2
          · obtain ⟨ad, us, k2, rfl, q1, q2, q3⟩ := hsrc hy0
            have hpos : 0 < ys'.length := List.length_pos_iff.2 hy0
            by_cases hroom : n + ys'.length ≤ O.c
            · exact app_in h ht hi hsk hlk hO hz' hn rfl q3 r2 q2 hroom
            · obtain ⟨hkk, cur, us0, h1, h2, h3, h4, h5, h6, h7⟩ := h.mem.own_ hlk hO hz'
              have hcr := cut_rows (l := 0) (h := n) h5 h7 (Nat.zero_le _) hn
              simp only [List.drop_zero, Nat.zero_mul, Nat.sub_zero] at hcr
              have hmul : n * O.k ≤ rows1.length * O.k := Nat.mul_le_mul_right _ hn
              exact app_grow (d := some id) h ht hi hz hsk hk0 hzk hb hln rfl hpos (fun h => by cases h) (fun ad' had j u hu => by
                cases had
                have e3 : (⟨O.b, 0, none⟩ : Addr).add j = (⟨O.b, 0, none⟩ : Addr).add j := rfl
                rw [cell_at' h1]
                rw [← h6, List.take_take, Nat.min_eq_left hmul, List.getElem?_take] at hu
                split at hu
                · exact hu
                · cases hu) q3 r1 r2 hcr.1 q2 (by omega) hby hmax
        · rw [hv]
          have e0 : rows1.take 0 = [] := rfl
          rw [e0] at hby hmax r1 ⊢
          by_cases hy0 : ys' = []
          · subst hy0
            obtain ⟨β', h1, h2⟩ := app_none (e := e1) (k := k1) (A := A) (d := some id) h (.inl ⟨rfl, rfl, rfl⟩)
            exact ⟨_, w, β', run_append_zero ht hi (Nat.le_refl _) w, h1, h2⟩
          · obtain ⟨ad, us, k2, rfl, q1, q2, q3⟩ := hsrc hy0
            have hpos : 0 < ys'.length := List.length_pos_iff.2 hy0
            exact app_grow (d := some id) (rows := []) h ht hi hz hsk hk0 hzk hb rfl rfl hpos (fun h => ⟨rfl, rfl⟩) (olds := []) (fun _ _ j u hu => by simp at hu) q3 (fun r hr => by simp at hr) r2 RepL.nil_ q2 (by simpa using hpos) hby hmax
      · cases hd
    · cases hd
  · cases hd
end
end Go.Proofs.YtbljhngekhgbbaaGreat
namespace Go.Proofs.YtbljhngekhgbbaaGreat
open Go.RowKit
set_option linter.unusedVariables false
set_option linter.unusedSectionVars false
set_option linter.unusedSimpArgs false
/-- rows written over others, from o on -/
def wrRows (rows : List (List PV)) (o : Nat) (ys : List (List PV)) : List (List PV) := rows.take o ++ ys ++ rows.drop (o + ys.length)
/-- clear, copy: what comes of them -/
def sopC (P : Program) (st : SSt) (o : Oper) : Option (TV × Store × Nat) := match o.op with
  | .call { callee := .builtin .clear, args := args, argTypes := ts } => match args.toList, ts.toList with
    | [x], [t] => (elemD P t).bind fun e => (zeroP P e).bind fun z => match st.eval x with
      | some (.one (.sl _ [])) => some (.tup [], st.boxes, st.next)
      | some (.one (.osl id o 0)) => some (.tup [], st.boxes, st.next)
      | some (.one (.osl id o (n + 1))) => match st.boxes.lookup id with
        | some (.own e' k rows) => if z.length = k ∧ o + (n + 1) ≤ rows.length then some (.tup [], Store.set st.boxes id (.own e' k (wrRows rows o (List.replicate (n + 1) z))), st.next) else none
        | _ => none
      | _ => none
    | _, _ => none
  | .call { callee := .builtin .copy, args := args, argTypes := ts } => match args.toList, ts.toList with
    | [x, y], t :: _ => (elemD P t).bind fun e => (sizeP P e).bind fun k => match st.eval x with
      | some (.one (.osl id o n)) => match st.boxes.lookup id with
        | some (.own e' k' rows) => (st.rows? y).bind fun ys => if k' = k ∧ o + n ≤ rows.length ∧ ys.all (·.length == k) = true ∧ rows ≠ [] then
            some (.one (.lit (.int .i64 (min ys.length n : Nat))), Store.set st.boxes id (.own e' k' (wrRows rows o (ys.take n))), st.next) else none
        | _ => none
      | _ => none
    | _, _ => none
  | _ => none
section
variable {ds : List Deferred} {P : Program} {N n : Nat} {W w w' : World} {H : Addr → Prop} {β : Ids} {X : Nat → Prop} {st : SSt} {a : Act} {G : Addr → Prop} {σ : Store}
theorem flat_take {k : Nat} : ∀ {rows : List (List PV)} (o : Nat), (∀ r ∈ rows, r.length = k) → (rows.take o).flatten = rows.flatten.take (o * k)
  | [], o, _ => by simp
  | r :: rows, 0, _ => by simp
  | r :: rows, o + 1, h => by
    have hr := h r (by simp)
    rw [List.take_succ_cons, List.flatten_cons, List.flatten_cons, flat_take o (fun x hx => h x (by simp [hx])), List.take_append, hr]
    have : (o + 1) * k - k = o * k := by rw [Nat.add_mul, Nat.one_mul]; omega
    rw [this, List.take_of_length_le (l := r) (by rw [hr, Nat.add_mul]; omega)]
theorem flat_drop {k : Nat} : ∀ {rows : List (List PV)} (o : Nat), (∀ r ∈ rows, r.length = k) → (rows.drop o).flatten = rows.flatten.drop (o * k)
  | [], o, _ => by simp
  | r :: rows, 0, _ => by simp
  | r :: rows, o + 1, h => by
    have hr := h r (by simp)
    rw [List.drop_succ_cons, List.flatten_cons, flat_drop o (fun x hx => h x (by simp [hx])), List.drop_append, hr]
    have : (o + 1) * k - k = o * k := by rw [Nat.add_mul, Nat.one_mul]; omega
    rw [this, List.drop_of_length_le (l := r) (by rw [hr, Nat.add_mul]; omega), List.nil_append]
theorem Inv.writeRows (h : Inv ds N W X H β st a w) {id o k : Nat} {e : TypeId} {rows ys : List (List PV)} {O : Own} {vs : List Value} (hb : st.boxes.lookup id = some (.own e k rows)) (hO : β id = some O) (hz : O.z = false)
    (hl : RepL w (st.G H β) noIds ys.flatten vs) (hk : ∀ r ∈ ys, r.length = k) (hle : o + ys.length ≤ rows.length) :
    ∃ w', (storeCells (O.at (o * O.k)) vs).run P w = .ok () w' ∧ MStep H w β st.boxes st.next w' β (Store.set st.boxes id (.own e k (wrRows rows o ys))) st.next := by
  obtain ⟨hkk, cur, us, h1, h2, h3, h4, h5, h6, h7⟩ := h.mem.own_ hb hO hz
  have hk' : ∀ r ∈ ys, r.length = O.k := fun r hr => by rw [hk r hr, hkk]
  have hfl := flat_len hk'
  have hvl : vs.length = ys.length * O.k := by rw [hl.1, hfl]
  have hmul : (o + ys.length) * O.k ≤ rows.length * O.k := Nat.mul_le_mul_right _ hle
  rw [Nat.add_mul] at hmul
  have hcap : rows.length * O.k ≤ cur.size := by rw [h2]; exact Nat.mul_le_mul_right _ h4
  have hrun := run_storeCells_at (P := P) O.b (o * O.k) e vs 0 cur w h1 (by rw [hvl]; omega) hl.one_
  have hat : O.at (o * O.k) = ⟨O.b, o * O.k, none⟩ := by unfold Own.at Addr.add; split <;> simp_all
  refine ⟨_, by rw [hat]; exact hrun, h.write hb hO hz h1 _ fun G' hg h9 => .inr ⟨hz, hkk, _, _, h9, ?_, h3, ?_, ?_, rfl, ?_⟩⟩
  · simp only [List.size_toArray, List.length_append, List.length_take, List.length_drop, Array.length_toList]
    omega
  · unfold wrRows
    simp only [List.length_append, List.length_take, List.length_drop]
    omega
  · intro r hr
    unfold wrRows at hr
    rcases List.mem_append.1 hr with hr | hr
    · rcases List.mem_append.1 hr with hr | hr
      · exact h5 r (List.mem_of_mem_take hr)
      · exact hk' r hr
    · exact h5 r (List.mem_of_mem_drop hr)
  · have hlen : (wrRows rows o ys).length = rows.length := by
      unfold wrRows
      simp only [List.length_append, List.length_take, List.length_drop]
      omega
    have e0 : (wrRows rows o ys).flatten = rows.flatten.take (o * O.k) ++ ys.flatten ++ rows.flatten.drop (o * O.k + ys.flatten.length) := by
      unfold wrRows
      rw [List.flatten_append, List.flatten_append, flat_take o h5, flat_drop _ h5, hfl, Nat.add_mul]
    have hlen2 : ys.flatten.length = vs.length := hl.1.symm
    rw [hlen, e0, List.toList_toArray, hlen2, Nat.add_zero, take_splice cur.toList vs (o * O.k) vs.length (rows.length * O.k) rfl (by rw [hvl]; omega) (by rw [Array.length_toList]; exact hcap), h6]
    exact (((h7.take (o * O.k)).append hl).append (h7.drop (o * O.k + vs.length))).mono hg
theorem zero_flat {z : Array Value} : ∀ n, (Builtin.zeroCells z n).toList = (List.replicate n z.toList).flatten := by
  intro n
  have hall : ∀ r ∈ List.replicate n z.toList, r.length = z.size := fun r hr => by rw [List.eq_of_mem_replicate hr, Array.length_toList]
  have hlen : ((List.replicate n z.toList).flatten).length = n * z.size := by rw [List.length_flatten]; simp
  apply List.ext_getElem
  · rw [Array.length_toList, size_zeroCells, hlen]
  · intro i h1 h2
    rw [hlen] at h2
    have hpos : 0 < z.size := by
      rcases Nat.eq_zero_or_pos z.size with h | h
      · rw [h] at h2; omega
      · exact h
    have hq : i / z.size < n := Nat.div_lt_of_lt_mul (by rw [Nat.mul_comm]; exact h2)
    have hm := Nat.mod_lt i hpos
    have hdm : i / z.size * z.size + i % z.size = i := Nat.div_add_mod' i z.size
    have hget : (List.replicate n z.toList).flatten[i]? = z.toList[i % z.size]? := by
      have : ∀ (m q r : Nat), q < m → r < z.size → ((List.replicate m z.toList).flatten)[q * z.size + r]? = z.toList[r]? := by
        intro m
        induction m with
        | zero => intro q r hq; omega
        | succ m ih =>
          intro q r hq hr
          rw [List.replicate_succ, List.flatten_cons]
          cases q with
          | zero => rw [Nat.zero_mul, Nat.zero_add, List.getElem?_append_left (by rw [Array.length_toList]; exact hr)]
          | succ q =>
            rw [List.getElem?_append_right (by rw [Array.length_toList, Nat.add_mul]; omega), Array.length_toList]
            have : (q + 1) * z.size + r - z.size = q * z.size + r := by rw [Nat.add_mul]; omega
            rw [this]
            exact ih q r (by omega) hr
      have := this n (i / z.size) (i % z.size) hq hm
      rwa [hdm] at this
    have e1 : (Builtin.zeroCells z n).toList[i] = z[i % z.size]! := by simp [Builtin.zeroCells]
    rw [e1]
    have h3 := List.getElem?_eq_getElem (l := (List.replicate n z.toList).flatten) (i := i) (by rw [hlen]; exact h2)
    rw [hget, List.getElem?_eq_getElem (by rw [Array.length_toList]; exact hm)] at h3
    have h4 := Option.some.inj h3
    rw [← h4]
    simp [getElem!_pos z (i % z.size) hm]
theorem rep_replicate {z : List PV} {zs : List Value} (h : RepL w G β z zs) : ∀ n, RepL w G β (List.replicate n z).flatten (List.replicate n zs).flatten
  | 0 => by simpa using RepL.nil_
  | n + 1 => by
    rw [List.replicate_succ, List.replicate_succ, List.flatten_cons, List.flatten_cons]
    exact h.append (rep_replicate h n)
end
end Go.Proofs.YtbljhngekhgbbaaGreat
namespace Go.Proofs.YtbljhngekhgbbaaGreat
open Go.RowKit
set_option linter.unusedVariables false
set_option linter.unusedSectionVars false
set_option linter.unusedSimpArgs false
/-- surely not nil -/
def SSt.notNil (P : Program) (st : SSt) (t : TypeId) (x : Operand) : Value → Bool
  | .slice none _ _ => (elemD P t).isSome && match st.eval x with
    | some (.one (.sl _ (_ :: _))) => true
    | some (.one (.osl id _ _)) => match st.boxes.lookup id with
      | some (.own _ _ (_ :: _)) => true
      | _ => false
    | _ => false
  | .pointer none => (match P.underlying t with
    | some (.pointer _) => true
    | _ => false) && match st.eval x with
    | some (.one (.ptr _ _)) | some (.one (.box _ _)) | some (.one (.elp _ _ _)) => true
    | _ => false
  | .nilFunc => (match P.underlying t with
    | some (.func _ _ _) => true
    | _ => false) && match st.eval x with
    | some (.one (.clo _ _ _)) => true
    | some (.one (.lit (.func _ _ _))) => true
    | _ => false
  | _ => false
def sopV2 (P : Program) (st : SSt) (o : Oper) : Option TV := match o.op with
  | .binOp .eql t x (.const v) _ => if st.notNil P t x v = true then some (.one (.lit (.bool false))) else none
  | .binOp .neq t x (.const v) _ => if st.notNil P t x v = true then some (.one (.lit (.bool true))) else none
  | _ => none
def sopW0 (P : Program) (st : SSt) (o : Oper) : Option TV := match sopV P st o with
  | some t => some t
  | none => sopV2 P st o
section
variable {ds : List Deferred} {P : Program} {N n : Nat} {W w w' : World} {H : Addr → Prop} {β : Ids} {X : Nat → Prop} {st : SSt} {a : Act} {G : Addr → Prop} {σ : Store}
theorem notNil_ok (h : Inv ds N W X H β st a w) {t : TypeId} {x : Operand} {v : Value} (e : st.notNil P t x v = true) : (Op.equal t (a.eval x) v).run P w = .ok false w ∧ ∀ y z, (eqGuard .eql t y z (a.eval x) v).run P w = .ok () w ∧ (eqGuard .neq t y z (a.eval x) v).run P w = .ok () w ∧ binOp .eql t (a.eval x) v = (do pure (.bool (← Op.equal t (a.eval x) v))) ∧ binOp .neq t (a.eval x) v = (do pure (.bool (!(← Op.equal t (a.eval x) v)))) := by
  unfold SSt.notNil at e
  split at e
  · rename_i n' c'
    simp only [Bool.and_eq_true] at e
    obtain ⟨he, e⟩ := e
    obtain ⟨el, hel⟩ := Option.isSome_iff_exists.1 he
    have hu := elemD_ hel
    have fin : ∀ (ad : Addr) (n c : Nat), a.eval x = .slice (some ad) n c → (Op.equal t (a.eval x) (.slice none n' c')).run P w = .ok false w ∧ ∀ y z, (eqGuard .eql t y z (a.eval x) (.slice none n' c')).run P w = .ok () w ∧ (eqGuard .neq t y z (a.eval x) (.slice none n' c')).run P w = .ok () w ∧ binOp .eql t (a.eval x) (.slice none n' c') = (do pure (.bool (← Op.equal t (a.eval x) (.slice none n' c')))) ∧ binOp .neq t (a.eval x) (.slice none n' c') = (do pure (.bool (!(← Op.equal t (a.eval x) (.slice none n' c'))))) := by
      intro ad n c hv
      rw [hv]
      refine ⟨?_, fun y z => ⟨rfl, rfl, rfl, rfl⟩⟩
      show (Op.equalIn 10000 t _ _).run P w = _
      unfold Op.equalIn
      rw [Sem.run_bind, run_underlying hu]
      rfl
    split at e
    · rename_i r rs hx
      obtain ⟨A, c, hv, _, _, _, hA⟩ := (h.eval hx).sl_
      obtain ⟨ad, us, k, rfl, _⟩ := hA (by simp)
      exact fin ad _ _ hv
    · rename_i id o m hx
      split at e
      · rename_i e' k r rs hb
        obtain ⟨O, hO, hc⟩ := (h.eval hx).osl_
        rcases hc with ⟨hz, _, hv⟩ | ⟨hz, _, _, _⟩
        · exact fin _ _ _ hv
        · obtain ⟨O', h1, h2⟩ := h.mem.row id _ hb
          rw [hO] at h1
          obtain rfl := Option.some.inj h1
          rcases h2 with h2 | h2
          · cases h2.2
          · rw [h2.1] at hz; cases hz
      · cases e
    · cases e
  · simp only [Bool.and_eq_true] at e
    obtain ⟨he, e⟩ := e
    split at he
    rotate_left
    · cases he
    rename_i el hu
    have fin : ∀ (ad : Addr), a.eval x = .pointer (some ad) → (Op.equal t (a.eval x) (.pointer none)).run P w = .ok false w ∧ ∀ y z, (eqGuard .eql t y z (a.eval x) (.pointer none)).run P w = .ok () w ∧ (eqGuard .neq t y z (a.eval x) (.pointer none)).run P w = .ok () w ∧ binOp .eql t (a.eval x) (.pointer none) = (do pure (.bool (← Op.equal t (a.eval x) (.pointer none)))) ∧ binOp .neq t (a.eval x) (.pointer none) = (do pure (.bool (!(← Op.equal t (a.eval x) (.pointer none))))) := by
      intro ad hv
      rw [hv]
      refine ⟨?_, fun y z => ⟨rfl, rfl, rfl, rfl⟩⟩
      show (Op.equalIn 10000 t _ _).run P w = _
      unfold Op.equalIn
      rw [Sem.run_bind, run_underlying hu]
      rfl
    split at e
    · rename_i xs off hx
      have := h.eval hx
      generalize a.eval x = u at this fin ⊢
      cases this with
      | one hp => cases hp; exact fin _ rfl
    · rename_i id off hx
      obtain ⟨O, _, _, hv⟩ := (h.eval hx).box_
      exact fin _ hv
    · rename_i id i off hx
      obtain ⟨O, _, _, hv⟩ := (h.eval hx).elp_
      exact fin _ hv
    · cases e
  · simp only [Bool.and_eq_true] at e
    obtain ⟨he, e⟩ := e
    split at he
    rotate_left
    · cases he
    rename_i p1 p2 p3 hu
    have fin : ∀ (g : Fn) (f c : Array Value), a.eval x = .func g f c → (Op.equal t (a.eval x) .nilFunc).run P w = .ok false w ∧ ∀ y z, (eqGuard .eql t y z (a.eval x) .nilFunc).run P w = .ok () w ∧ (eqGuard .neq t y z (a.eval x) .nilFunc).run P w = .ok () w ∧ binOp .eql t (a.eval x) .nilFunc = (do pure (.bool (← Op.equal t (a.eval x) .nilFunc))) ∧ binOp .neq t (a.eval x) .nilFunc = (do pure (.bool (!(← Op.equal t (a.eval x) .nilFunc)))) := by
      intro g f c hv
      rw [hv]
      refine ⟨?_, fun y z => ⟨rfl, rfl, rfl, rfl⟩⟩
      show (Op.equalIn 10000 t _ _).run P w = _
      unfold Op.equalIn
      rw [Sem.run_bind, run_underlying hu]
      rfl
    split at e
    · rename_i g f c hx
      have := h.eval hx
      generalize a.eval x = u at this fin ⊢
      cases this with
      | one hp => cases hp; exact fin _ _ _ rfl
    · rename_i g f c hx
      exact fin g f c ((h.eval hx).val (u := .func g f c) rfl)
    · cases e
  · cases e
theorem sopV2_run {o : Oper} {tv : TV} (h : Inv ds N W X H β st a w) (e : sopV2 P st o = some tv) : ∃ v, (execOp a.eval o).run P w = .ok (.value v) w ∧ RepT w (st.G H β) β tv v := by
  obtain ⟨dst, op, ty, pos, after, guard⟩ := o
  unfold sopV2 at e
  unfold execOp
  dsimp only at e
  split at e
  · rename_i t x v yt
    split at e
    · rename_i hn
      obtain rfl := Option.some.inj e
      obtain ⟨h1, h2⟩ := notNil_ok (P := P) h hn
      obtain ⟨g1, g2, g3, g4⟩ := h2 x (.const v)
      refine ⟨.bool false, ?_, .one (.lit rfl)⟩
      dsimp only
      show (do pure (Next.value (← (do eqGuard .eql t x (.const v) (a.eval x) v; binOp .eql t (a.eval x) v))) : Sem Next).run P w = _
      rw [Sem.run_bind, Sem.run_bind, g1, Result.andThen_ok, g3, Sem.run_bind, h1]
      rfl
    · cases e
  · rename_i t x v yt
    split at e
    · rename_i hn
      obtain rfl := Option.some.inj e
      obtain ⟨h1, h2⟩ := notNil_ok (P := P) h hn
      obtain ⟨g1, g2, g3, g4⟩ := h2 x (.const v)
      refine ⟨.bool true, ?_, .one (.lit rfl)⟩
      dsimp only
      show (do pure (Next.value (← (do eqGuard .neq t x (.const v) (a.eval x) v; binOp .neq t (a.eval x) v))) : Sem Next).run P w = _
      rw [Sem.run_bind, Sem.run_bind, g2, Result.andThen_ok, g4, Sem.run_bind, h1]
      rfl
    · cases e
  · cases e
theorem sopW0_run {o : Oper} {tv : TV} (h : Inv ds N W X H β st a w) (e : sopW0 P st o = some tv) : ∃ v, (execOp a.eval o).run P w = .ok (.value v) w ∧ RepT w (st.G H β) β tv v := by
  unfold sopW0 at e
  split at e
  · rename_i t ht
    obtain rfl := Option.some.inj e
    exact sopV_run h ht
  · exact sopV2_run h e
theorem all_len_ {k : Nat} {ys : List (List PV)} (h : ys.all (·.length == k) = true) : ∀ r ∈ ys, r.length = k := fun r hr => by simpa using List.all_eq_true.1 h r hr
theorem sopC_run {o : Oper} {tv : TV} {σ' : Store} {n' : Nat} (h : Inv ds N W X H β st a w) (e : sopC P st o = some (tv, σ', n')) : Did P H w β st o a tv σ' n' := by
  obtain ⟨dst, op, ty, pos, after, guard⟩ := o
  unfold sopC at e
  dsimp only at e
  split at e
  · rename_i args ts
    split at e
    rotate_left
    · cases e
    rename_i x t h1 h2
    have ea : args = #[x] := Array.ext' h1
    have et : ts = #[t] := Array.ext' h2
    subst ea
    subst et
    obtain ⟨el, hel, e⟩ := Option.bind_eq_some_iff.1 e
    obtain ⟨z, hz, e⟩ := Option.bind_eq_some_iff.1 e
    have hu := elemD_ hel
    obtain ⟨i, zv, hi, hzv, hzl⟩ := zeroP_ok (w := w) (G := st.G H β) (β := noIds) hz
    have enter : ∀ {v : Value} {w2 : World}, a.eval x = v → (Builtin.clear_ #[t] ty #[v]).run P w = .ok (.tuple #[]) w2 → (execOp a.eval ⟨dst, .call { callee := .builtin .clear, args := #[x], argTypes := #[t] }, ty, pos, after, guard⟩).run P w = .ok (.value (.tuple #[])) w2 := by
      intro v w2 hv hr
      unfold execOp resolve
      dsimp only
      have e1 : (#[x] : Array Operand).map a.eval = #[v] := by simp [hv]
      rw [e1]
      show (do pure (Next.value (← Builtin.clear_ #[t] ty #[v])) : Sem Next).run P w = _
      rw [Sem.run_bind, hr]
      rfl
    have noop : ∀ (A : Option Addr) (c : Nat), (Builtin.clear_ #[t] ty #[.slice A 0 c]).run P w = .ok (.tuple #[]) w := by
      intro A c
      unfold Builtin.clear_
      cases A with
      | none => simp [run_underlying hu]
      | some ad => simp [run_underlying hu]
    have tup0 : ∀ (w2 : World) (G2 : Addr → Prop) (b2 : Ids), RepT w2 G2 b2 (.tup []) (.tuple #[]) := fun w2 G2 b2 => .tup rfl fun i t v h => by simp at h
    split at e
    · rename_i xf hx
      simp only [Option.some.injEq, Prod.mk.injEq] at e
      obtain ⟨rfl, rfl, rfl⟩ := e
      obtain ⟨A, c, hv, _⟩ := (h.eval hx).sl_
      exact Did.value (enter hv (noop A c)) (MStep.refl h.mem) (tup0 _ _ _)
    · rename_i id o hx
      simp only [Option.some.injEq, Prod.mk.injEq] at e
      obtain ⟨rfl, rfl, rfl⟩ := e
      obtain ⟨O, hO, hc⟩ := (h.eval hx).osl_
      rcases hc with ⟨hz, _, hv⟩ | ⟨hz, _, _, A, hv⟩
      · exact Did.value (enter hv (noop _ _)) (MStep.refl h.mem) (tup0 _ _ _)
      · exact Did.value (enter hv (noop _ _)) (MStep.refl h.mem) (tup0 _ _ _)
    · rename_i id o m hx
      split at e
      rotate_left
      · cases e
      rename_i e' k rows hb
      split at e
      rotate_left
      · cases e
      rename_i hc
      simp only [Option.some.injEq, Prod.mk.injEq] at e
      obtain ⟨rfl, rfl, rfl⟩ := e
      obtain ⟨O, hO, hcase⟩ := (h.eval hx).osl_
      rcases hcase with ⟨hz', _, hv⟩ | ⟨_, _, hm, _⟩
      rotate_left
      · omega
      obtain ⟨w2, hrun, hstep⟩ := h.writeRows (P := P) (o := o) (ys := List.replicate (m + 1) z) hb hO hz' (rep_replicate hzl (m + 1)) (fun r hr => by rw [List.eq_of_mem_replicate hr]; exact hc.1) (by rw [List.length_replicate]; exact hc.2)
      refine Did.value (enter hv ?_) hstep (tup0 _ _ _)
      have hzr : (zeroValue el).run P w = .ok zv w := by simp [zeroValue, typeInfo, hi, hzv]
      have hz2 : (Builtin.zeroCells zv.cells (m + 1)).toList = (List.replicate (m + 1) zv.cells.toList).flatten := zero_flat _
      rw [← hz2] at hrun
      unfold Builtin.clear_
      show (do
        match ← underlying t, (Value.slice (some (O.at (o * O.k))) (m + 1) (O.c - o)) with
        | _, .map none | _, .slice none _ _ | _, .slice _ 0 _ => pure ()
        | _, .map (some r) =>
          let .map _ clock ← getObj r | stuck "clear: map expected"
          setObj r (.map #[] clock)
        | .slice elem, .slice (some a) n _ => storeCells a (Builtin.zeroCells (← zeroValue elem).cells n).toList
        | _, _ => stuck "clear: map or slice expected"
        pure (.tuple #[]) : Sem Value).run P w = _
      rw [Sem.run_bind, run_underlying hu]
      simp only [Result.andThen_ok]
      rw [Sem.run_bind, hzr, Result.andThen_ok, Sem.run_bind, hrun]
      rfl
    · cases e
  · rename_i args ts
    split at e
    rotate_left
    · cases e
    rename_i x y t rest h1 h2
    have ea : args = #[x, y] := Array.ext' h1
    subst ea
    obtain ⟨el, hel, e⟩ := Option.bind_eq_some_iff.1 e
    obtain ⟨k, hk, e⟩ := Option.bind_eq_some_iff.1 e
    have hu := elemD_ hel
    split at e
    rotate_left
    · cases e
    rename_i id o m hx
    split at e
    rotate_left
    · cases e
    rename_i e' k' rows hb
    obtain ⟨ys, hys, e⟩ := Option.bind_eq_some_iff.1 e
    split at e
    rotate_left
    · cases e
    rename_i hc
    simp only [Option.some.injEq, Prod.mk.injEq] at e
    obtain ⟨rfl, rfl, rfl⟩ := e
    obtain ⟨rfl, hle, hall, hne⟩ := hc
    obtain ⟨O, hO, hcase⟩ := (h.eval hx).osl_
    have hz : O.z = false ∧ a.eval x = .slice (some (O.at (o * O.k))) m (O.c - o) := by
      rcases hcase with ⟨hz, _, hv⟩ | ⟨hz, _, _, _⟩
      · exact ⟨hz, hv⟩
      · obtain ⟨O', g1, g2⟩ := h.mem.row id _ hb
        rw [hO] at g1
        obtain rfl := Option.some.inj g1
        rcases g2 with g2 | g2
        · exact absurd g2.2 hne
        · rw [g2.1] at hz; cases hz
    obtain ⟨B, c, hyv, hyc, hsrc⟩ := h.src_ hys
    have hally := all_len_ hall
    -- the cells that are read
    have hread : ∃ vs : List Value, (Builtin.firstCells k' (min ys.length m) (a.eval y)).run P w = .ok vs.toArray w ∧ RepL w (st.G H β) noIds (ys.take m).flatten vs := by
      by_cases hy0 : ys = []
      · subst hy0
        refine ⟨[], ?_, by simpa using RepL.nil_⟩
        rw [hyv]
        cases B with
        | none => simp [Builtin.firstCells]
        | some ad => simp [Builtin.firstCells, loadCells, loadCellsFrom]
      · obtain ⟨ad, us, k0, rfl, hk0, hl, hcell⟩ := hsrc hy0
        have hkk : k0 = k' := by
          obtain ⟨r, rs, rfl⟩ := List.exists_cons_of_ne_nil hy0
          rw [← hk0 r (by simp), hally r (by simp)]
        subst hkk
        have hcr := cut_rows (l := 0) (h := min ys.length m) hally hl (Nat.zero_le _) (Nat.min_le_left _ _)
        simp only [List.drop_zero, Nat.zero_mul, Nat.sub_zero] at hcr
        have htk : ys.take (min ys.length m) = ys.take m := by
          rw [Nat.min_def]
          split
          · rw [List.take_of_length_le (Nat.le_refl _), List.take_of_length_le (by omega)]
          · rfl
        rw [htk] at hcr
        refine ⟨_, ?_, hcr.1⟩
        rw [hyv]
        refine run_firstCells_some w k0 _ ad _ _ _ ?_ fun j v hj => hcell j v (by have := hcr.2 j v hj; rwa [Nat.zero_add] at this)
        rw [hcr.1.1, flat_len (fun r hr => hally r (List.mem_of_mem_take hr)), List.length_take]
        congr 1
        omega
    obtain ⟨vs, hfirst, hvs⟩ := hread
    obtain ⟨w2, hrun, hstep⟩ := h.writeRows (P := P) (o := o) (ys := ys.take m) hb hO hz.1 hvs (fun r hr => hally r (List.mem_of_mem_take hr)) (by rw [List.length_take]; omega)
    refine Did.value (v := .int .i64 (min ys.length m : Nat)) ?_ hstep (.one (.lit rfl))
    unfold execOp resolve
    dsimp only
    have e1 : (#[x, y] : Array Operand).map a.eval = #[a.eval x, a.eval y] := by simp
    rw [e1]
    show (do pure (Next.value (← Builtin.copy_ ts ty #[a.eval x, a.eval y])) : Sem Next).run P w = _
    have e2 : ts = (t :: rest).toArray := by rw [← h2]
    have hcopy : (Builtin.copy_ ts ty #[a.eval x, a.eval y]).run P w = .ok (.int .i64 (min ys.length m : Nat)) w2 := by
      rw [e2]
      have hlen : (Builtin.lenOf (a.eval y)).run P w = .ok ys.length w := by rw [hyv]; rfl
      unfold Builtin.copy_
      simp only [hz.2, List.getElem?_toArray, List.getElem?_cons_zero, List.getElem?_cons_succ]
      rw [Sem.run_bind, run_underlying hu]
      simp only [Result.andThen_ok]
      rw [Sem.run_bind, hlen]
      simp only [Result.andThen_ok]
      rw [Sem.run_bind, run_size hk]
      simp only [Result.andThen_ok]
      rw [Sem.run_bind, show Nat.min ys.length m = min ys.length m from rfl, hfirst]
      simp only [Result.andThen_ok]
      rw [Sem.run_bind, hrun]
      rfl
    rw [Sem.run_bind, hcopy]
    rfl
  · cases e
end
end Go.Proofs.YtbljhngekhgbbaaGreat
