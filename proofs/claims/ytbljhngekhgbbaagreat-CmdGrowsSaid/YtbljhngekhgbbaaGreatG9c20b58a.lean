/- Texts of the proofs of CmdEnds, CmdFirst, CmdGrows, CmdPlays, merged (AmC, AmD, AmE, AmF). -/
import Derived.Laws.Cells
import Derived.KernelRfl
import Derived.Test.YtbljhngekhgbbaaGreatGb3b707fa
import Derived.Test.YtbljhngekhgbbaaGreatGb43ee308
set_option linter.unusedSimpArgs false
set_option linter.unusedVariables false
namespace Go.Proofs.YtbljhngekhgbbaaGreat
open Go.RowKit
set_option linter.unusedVariables false
set_option linter.unusedSectionVars false
def TV.cells : TV → Option (List PV)
  | .one p => some [p]
  | .agg ps => some ps
  | _ => none
def sizeP (P : Program) (t : TypeId) : Option Nat := (P.info? t).map (·.size)
def aggD : TypeDesc → Bool
  | .struct _ | .array _ _ => true
  | _ => false
/-- what is read of type t at a place of a row -/
def readRow (P : Program) (t : TypeId) (xs : List PV) (off : Nat) : Option TV :=
  (sizeP P t).bind fun k => (P.underlying t).bind fun d => if aggD d = true then (if off + k ≤ xs.length then some (.agg ((xs.drop off).take k)) else none) else (xs[off]?).map .one
def SSt.val (st : SSt) (x : Operand) : Option Value := (st.eval x).bind TV.val?
def SSt.valsO (st : SSt) : List Operand → Option (List Value)
  | [] => some []
  | x :: xs => (st.val x).bind fun v => (st.valsO xs).map (v :: ·)
def optV (st : SSt) : Option Operand → Option (Option Int)
  | none => some none
  | some x => match st.val x with
    | some (.int _ i) => some (some i)
    | _ => none
def fieldD (P : Program) (s : TypeId) (f : Nat) : Option Field := match P.underlying s with
  | some (.struct fs) => fs[f]?
  | _ => none
def elemD (P : Program) (s : TypeId) : Option TypeId := match P.underlying s with
  | some (.slice e) => some e
  | _ => none
/-- a slice of what is only read -/
def cutSl (x : Bool) (rows : List (List PV)) (l h : Nat) (m : Option Nat) : Option TV := match m with
  | none => if l ≤ h ∧ h ≤ rows.length then some (.one (.sl (x && h == rows.length) ((rows.take h).drop l))) else none
  | some m => if l ≤ h ∧ h ≤ m ∧ m ≤ rows.length then some (.one (.sl (m == h) ((rows.take h).drop l))) else none
def cutOs (id o n l h : Nat) : Option TV := if l ≤ h ∧ h ≤ n then some (.one (if l = 0 then .osl id o h else if l = h then .sl false [] else .osl id (o + l) (h - l))) else none
def SSt.nat? (st : SSt) (x : Operand) : Option Nat := match st.val x with
  | some (.int _ i) => if 0 ≤ i then some i.toNat else none
  | _ => none
def SSt.nat?? (st : SSt) (d : Nat) : Option Operand → Option Nat
  | none => some d
  | some x => st.nat? x
def SSt.pvs (st : SSt) : List Operand → Option (List PV)
  | [] => some []
  | x :: xs => match st.eval x with
    | some (.one p) => (st.pvs xs).map (p :: ·)
    | _ => none
def arrD (P : Program) (s : TypeId) : Option (Nat × TypeId) := match P.underlying s with
  | some (.array n e) => some (n, e)
  | _ => none
/-- the operations that leave memory as it is: what comes of them -/
def sopV (P : Program) (st : SSt) (o : Oper) : Option TV := match o.op with
  | .move x | .assign x => st.eval x
  | .pick c x y => match st.eval c with
    | some (.one (.lit (.bool b))) => if b = true then st.eval x else st.eval y
    | _ => none
  | .load t x => match st.eval x with
    | some (.one (.ptr xs off)) => readRow P t xs off
    | some (.one (.box id off)) => match st.boxes.lookup id with
      | some (.var xs) => readRow P t xs off
      | _ => none
    | some (.one (.elp id i off)) => match st.boxes.lookup id with
      | some (.own _ _ rows) => (rows[i]?).bind fun r => readRow P t r off
      | _ => none
    | _ => none
  | .nilCheck x => match st.eval x with
    | some (.one (.ptr xs off)) => some (.one (.ptr xs off))
    | some (.one (.box id off)) => some (.one (.box id off))
    | some (.one (.elp id i off)) => some (.one (.elp id i off))
    | some (.one (.clo (.func g) f c)) => some (.one (.clo (.func g) f c))
    | some (.one (.lit (.func (.func g) f c))) => some (.one (.lit (.func (.func g) f c)))
    | _ => none
  | .binOp op t x y _ => (st.val x).bind fun vx => (st.val y).bind fun vy => (pureRun P (do eqGuard op t x y vx vy; binOp op t vx vy)).bind ofVal
  | .unOp op _ x => (st.val x).bind fun vx => (pureRun P (Op.unary op vx)).bind ofVal
  | .convert s d x => (st.val x).bind fun vx => (pureRun P (convert s d vx)).bind ofVal
  | .index t x i => match arrD P t with
    | some (n, e) => (st.nat? i).bind fun i => (sizeP P e).bind fun k => match st.eval x with
      | some (.agg ps) => if i < n then readRow P e ps (i * k) else none
      | _ => none
    | none => (st.val x).bind fun vx => (st.val i).bind fun vi => (pureRun P (Instr.index t vx vi)).bind ofVal
  | .slice t x lo hi mx => (st.nat?? 0 lo).bind fun l => match st.eval x with
    | some (.one (.sl x rows)) => (elemD P t).bind fun e => (sizeP P e).bind fun k => (st.nat?? rows.length hi).bind fun h => match mx with
      | none => if rows.all (·.length == k) = true then cutSl x rows l h none else none
      | some m => (st.nat? m).bind fun m => if hi.isSome = true ∧ rows.all (·.length == k) = true then cutSl x rows l h (some m) else none
    | some (.one (.osl id o n)) => (elemD P t).bind fun e => (sizeP P e).bind fun k => (st.nat?? n hi).bind fun h => match mx, st.boxes.lookup id with
      | none, some (.own _ _ rows) => if rows.all (·.length == k) = true ∧ rows ≠ [] then cutOs id o n l h else none
      | _, _ => none
    | some (.one (.lit (.string s))) => (st.nat?? s.size hi).bind fun h => match mx, P.underlying t with
      | none, some .string => if l ≤ h ∧ h ≤ s.size then some (.one (.lit (.string (s.extract l h)))) else none
      | _, _ => none
    | _ => none
  | .fieldAddr s x f => (fieldD P s f).bind fun fd => (sizeP P fd.type).bind fun k => if k = 0 then none else match st.eval x with
    | some (.one (.ptr xs off)) => some (.one (.ptr xs (off + fd.offset)))
    | some (.one (.box id off)) => some (.one (.box id (off + fd.offset)))
    | some (.one (.elp id i off)) => some (.one (.elp id i (off + fd.offset)))
    | _ => none
  | .field s x f => (fieldD P s f).bind fun fd => match st.eval x with
    | some (.agg ps) => readRow P fd.type ps fd.offset
    | _ => none
  | .indexAddr t x i => (st.nat? i).bind fun i => match arrD P t with
    | some (n, e) => (sizeP P e).bind fun k => if i < n then (match st.eval x with
      | some (.one (.ptr xs off)) => some (.one (.ptr xs (off + i * k)))
      | some (.one (.box id off)) => some (.one (.box id (off + i * k)))
      | _ => none) else none
    | none => (elemD P t).bind fun e => (sizeP P e).bind fun k => match st.eval x with
      | some (.one (.sl _ rows)) => match rows[i]? with
        | some r => if r.length = k then some (.one (.ptr r 0)) else none
        | none => none
      | some (.one (.osl id o n)) => match st.boxes.lookup id with
        | some (.own _ _ rows) => if i < n then (match rows[o + i]? with
          | some r => if r.length = k then some (.one (.elp id (o + i) 0)) else none
          | none => none) else none
        | _ => none
      | _ => none
  | .extract x i => match st.eval x with
    | some (.tup ts) => ts[i]?
    | _ => none
  | .call { callee := .builtin .len, args := args, argTypes := ts } => (ts[0]?).bind fun t => (args[0]?).bind fun x => match st.eval x, P.underlying t with
    | some (.one (.sl _ rows)), some (.slice _) => some (.one (.lit (.int .i64 rows.length)))
    | some (.one (.osl _ _ n)), some (.slice _) => some (.one (.lit (.int .i64 n)))
    | some (.one (.lit (.string s))), some .string => some (.one (.lit (.int .i64 s.size)))
    | _, _ => none
  | .call { callee := .builtin .min, args := args, argTypes := ts } => (st.valsO args.toList).bind fun vs => (pureRun P (Builtin.min_ ts o.type vs.toArray)).bind ofVal
  | .call { callee := .builtin .max, args := args, argTypes := ts } => (st.valsO args.toList).bind fun vs => (pureRun P (Builtin.max_ ts o.type vs.toArray)).bind ofVal
  | .makeFunc fn first cap => (st.pvs first.toList).bind fun f => (st.pvs cap.toList).map fun c => .one (.clo fn f c)
  | _ => none
section
variable {ds : List Deferred} {P : Program} {N : Nat} {W w w' : World} {H : Addr → Prop} {β : Ids} {X : Nat → Prop} {st : SSt} {a : Act} {G : Addr → Prop} {K : Act → World → Prop} {Q : Exit → Act → World → Prop}
theorem one_cells {v : Value} (h : v.oneCell' = true) : v.cells = #[v] := by cases v <;> simp_all [Value.oneCell', Value.cells]
theorem RepT.cells_ {tv : TV} {v : Value} {ps : List PV} (h : RepT w G β tv v) (e : tv.cells = some ps) : RepL w G β ps v.cells.toList := by
  cases h with
  | one h =>
    simp [TV.cells] at e
    subst e
    rw [one_cells h.oneCell]
    exact RepL.cons_.2 ⟨h, RepL.nil_⟩
  | agg h =>
    simp [TV.cells] at e
    subst e
    exact h
  | tup => simp [TV.cells] at e
  | bad => simp [TV.cells] at e
theorem Inv.val_ (h : Inv ds N W X H β st a w) {x : Operand} {u : Value} (e : st.val x = some u) : a.eval x = u := by
  unfold SSt.val at e
  obtain ⟨tv, h1, h2⟩ := Option.bind_eq_some_iff.1 e
  exact (h.eval h1).val h2
theorem Inv.valsO_ (h : Inv ds N W X H β st a w) : ∀ {xs : List Operand} {us : List Value}, st.valsO xs = some us → xs.map a.eval = us
  | [], us, e => by simp [SSt.valsO] at e; subst e; rfl
  | x :: xs, us, e => by
    simp only [SSt.valsO, Option.bind_eq_some_iff, Option.map_eq_some_iff] at e
    obtain ⟨v, hv, r, hr, rfl⟩ := e
    rw [List.map_cons, h.val_ hv, h.valsO_ hr]
theorem wp_value {o : Oper} {v : Value} (h : (execOp a.eval o).run P w = .ok (.value v) w') (k : K (a.put o.dst v) w') : o.wp P a w K Q := by
  unfold Oper.wp
  rw [h]
  exact k
theorem wp_skip_ {o : Oper} (h : (execOp a.eval o).run P w = .ok .skip w') (k : K (a.put o.dst undef) w') : o.wp P a w K Q := by
  unfold Oper.wp
  rw [h]
  exact k
theorem run_agg {t : TypeId} {d : TypeDesc} (h : P.underlying t = some d) (w : World) : (isAgg t).run P w = .ok (aggD d) w := by
  unfold isAgg
  rw [Sem.run_bind, run_underlying h]
  cases d <;> rfl
theorem run_size {t : TypeId} {k : Nat} (h : sizeP P t = some k) (w : World) : (sizeOf t).run P w = .ok k w := by
  unfold sizeP at h
  obtain ⟨i, hi, rfl⟩ := Option.map_eq_some_iff.1 h
  unfold sizeOf
  rw [Sem.run_bind]
  simp [typeInfo, program, Sem.run, hi, bind, Sem.bind, pure, Sem.pure]
/-- a load -/
theorem run_read {t : TypeId} {xs : List PV} {us : List Value} {off : Nat} {tv : TV} {ad : Addr} (h : readRow P t xs off = some tv) (hl : RepL w G β xs us) (hc : ∀ i u, us[i]? = some u → w.cell? (ad.add i) = some u) :
    ∃ v, (loadVar t (ad.add off)).run P w = .ok v w ∧ RepT w G β tv v := by
  unfold readRow at h
  obtain ⟨k, hk, h⟩ := Option.bind_eq_some_iff.1 h
  obtain ⟨d, hd, h⟩ := Option.bind_eq_some_iff.1 h
  unfold loadVar
  rw [Sem.run_bind, run_agg hd, Result.andThen_ok]
  by_cases ha : aggD d = true
  · rw [if_pos ha] at h ⊢
    by_cases hle : off + k ≤ xs.length
    · rw [if_pos hle] at h
      obtain rfl := Option.some.inj h
      have hr := run_loadCellsFrom (P := P) (w := w) (ad.add off) (fun j => us.getD (off + j) undef) k 0 #[] (fun j hj => by
        have hlt : off + (0 + j) < us.length := by rw [hl.1]; omega
        rw [add_of_add, hc _ _ (List.getElem?_eq_getElem hlt), List.getD_eq_getElem?_getD, List.getElem?_eq_getElem hlt]; rfl)
      refine ⟨.agg (#[] ++ ((List.range k).map fun j => us.getD (off + (0 + j)) undef).toArray), ?_, ?_⟩
      · rw [Sem.run_bind, run_size hk, Result.andThen_ok, Sem.run_bind]
        unfold loadCells
        rw [hr]
        rfl
      · refine .agg ?_
        have e : (#[] ++ ((List.range k).map fun j => us.getD (off + (0 + j)) undef).toArray).toList = (us.drop off).take k := by
          simp only [Array.toList_append, List.nil_append]
          apply List.ext_getElem?
          intro j
          rw [List.getElem?_map, List.getElem?_take, List.getElem?_drop]
          by_cases hj : j < k
          · have hlt : off + j < us.length := by rw [hl.1]; omega
            rw [if_pos hj, List.getElem?_range hj]
            simp [List.getD_eq_getElem?_getD, List.getElem?_eq_getElem hlt]
          · rw [if_neg hj, List.getElem?_eq_none (by simpa using hj)]; rfl
        rw [e]
        exact (hl.drop off).take k
    · rw [if_neg hle] at h; cases h
  · rw [if_neg ha] at h ⊢
    obtain ⟨p, hp, rfl⟩ := Option.map_eq_some_iff.1 h
    obtain ⟨u, hu, hr⟩ := hl.get hp
    refine ⟨u, ?_, .one hr⟩
    show (load (ad.add off)).run P w = _
    simp [load, Sem.run, hc _ _ hu]
theorem run_fieldPlace {s : TypeId} {f : Nat} {fd : Field} {k : Nat} {ad : Addr} (h : fieldD P s f = some fd) (hk : sizeP P fd.type = some k) (h0 : k ≠ 0) (w : World) :
    (Instr.fieldAt s (.pointer (some ad)) f).run P w = .ok (.pointer (some (ad.add fd.offset))) w := by
  unfold fieldD at h
  split at h
  · rename_i fs hs
    unfold Instr.fieldAt
    rw [Sem.run_bind, run_underlying hs, Result.andThen_ok]
    simp only [h]
    rw [Sem.run_bind]
    simp only [Instr.sureAddr, Sem.run, pure, Result.andThen_ok]
    rw [Sem.run_bind]
    unfold fieldPlace
    rw [Sem.run_bind, run_size hk, Result.andThen_ok, if_neg h0]
    rfl
  · cases h
theorem ok_bind {α γ : Type} {s : Sem α} {x : α} (h : s.run P w = .ok x w) (f : α → Sem γ) : (s >>= f).run P w = (f x).run P w := by rw [Sem.run_bind, h, Result.andThen_ok]
theorem ok_v {s : Sem Value} {x : Value} (h : s.run P w = .ok x w) : (do pure (Next.value (← s)) : Sem Next).run P w = .ok (.value x) w := by rw [ok_bind h]; rfl
end
end Go.Proofs.YtbljhngekhgbbaaGreat
namespace Go.Proofs.YtbljhngekhgbbaaGreat
open Go.RowKit
set_option linter.unusedVariables false
set_option linter.unusedSectionVars false
set_option linter.unusedSimpArgs false
section
variable {ds : List Deferred} {P : Program} {N : Nat} {W w w' : World} {H : Addr → Prop} {β : Ids} {X : Nat → Prop} {st : SSt} {a : Act} {K : Act → World → Prop} {Q : Exit → Act → World → Prop} {G : Addr → Prop}
theorem noIds_more : ∀ i o, noIds i = some o → β i = some o := fun i o h => by cases h
theorem RepT.ptr_ {xs : List PV} {off : Nat} {v : Value} (h : RepT w G β (.one (.ptr xs off)) v) : ∃ (ad : Addr) (us : List Value), v = .pointer (some (ad.add off)) ∧ RepL w G noIds xs us ∧ ∀ (i : Nat) (u : Value), us[i]? = some u → w.cell? (ad.add i) = some u ∧ G (ad.add i) := by
  cases h with
  | one h =>
    cases h with
    | ptr hl hc hr => exact ⟨_, _, rfl, ⟨hl, hr⟩, hc⟩
theorem RepT.box_ {id off : Nat} {v : Value} (h : RepT w G β (.one (.box id off)) v) : ∃ O, β id = some O ∧ O.z = false ∧ v = .pointer (some (O.at off)) := by
  cases h with
  | one h =>
    cases h with
    | box h hz => exact ⟨_, h, hz, rfl⟩
theorem RepT.elp_ {id i off : Nat} {v : Value} (h : RepT w G β (.one (.elp id i off)) v) : ∃ O, β id = some O ∧ O.z = false ∧ v = .pointer (some (O.at (i * O.k + off))) := by
  cases h with
  | one h =>
    cases h with
    | elp h hz => exact ⟨_, h, hz, rfl⟩
theorem RepT.sl_ {x : Bool} {rows : List (List PV)} {v : Value} (h : RepT w G β (.one (.sl x rows)) v) : ∃ A c, v = .slice A rows.length c ∧ rows.length ≤ c ∧ (x = true → c = rows.length) ∧ (A = none → c = 0) ∧ (rows ≠ [] → ∃ (ad : Addr) (us : List Value) (k : Nat), A = some ad ∧ (∀ r ∈ rows, r.length = k) ∧ RepL w G noIds rows.flatten us ∧ ∀ (i : Nat) (u : Value), us[i]? = some u → w.cell? (ad.add i) = some u ∧ G (ad.add i)) := by
  cases h with
  | one h =>
    cases h with
    | sl0 hx hA => exact ⟨_, _, rfl, Nat.zero_le _, hx, hA, fun h => absurd rfl h⟩
    | sl h hx hk hl hc hr => exact ⟨_, _, rfl, h, hx, (fun h => by cases h), fun _ => ⟨_, _, _, rfl, hk, ⟨hl, hr⟩, hc⟩⟩
theorem RepT.osl_ {id o n : Nat} {v : Value} (h : RepT w G β (.one (.osl id o n)) v) : ∃ O, β id = some O ∧ ((O.z = false ∧ o + n ≤ O.c ∧ v = .slice (some (O.at (o * O.k))) n (O.c - o)) ∨ (O.z = true ∧ o = 0 ∧ n = 0 ∧ ∃ A, v = .slice A 0 0)) := by
  cases h with
  | one h =>
    cases h with
    | osl h hz hn => exact ⟨_, h, .inl ⟨hz, hn, rfl⟩⟩
    | osl0 h hz => exact ⟨_, h, .inr ⟨hz, rfl, rfl, _, rfl⟩⟩
theorem cell_at {b : Nat} {us : List Value} {ty : TypeId} (h : w.heap[b]? = some (.cells us.toArray ty (0, 0))) (i : Nat) : w.cell? ((⟨b, 0, none⟩ : Addr).add i) = us[i]? := by
  have e : ((⟨b, 0, none⟩ : Addr).add i) = ⟨b, i, none⟩ := by
    unfold Addr.add
    split <;> simp_all
  rw [e]
  simp [World.cell?, h]
theorem cell_at' {b : Nat} {cur : Array Value} {ty : TypeId} (h : w.heap[b]? = some (.cells cur ty (0, 0))) (i : Nat) : w.cell? ((⟨b, 0, none⟩ : Addr).add i) = cur.toList[i]? := cell_at (us := cur.toList) (by simpa using h) i
theorem Inv.var_ (h : Inv ds N W X H β st a w) {id : Nat} {xs : List PV} {O : Own} (hl : st.boxes.lookup id = some (.var xs)) (hb : β id = some O) : ∃ (ty : TypeId) (us : List Value), w.heap[O.b]? = some (.cells us.toArray ty (0, 0)) ∧ RepL w (st.G H β) β xs us := by
  obtain ⟨O', h1, h2⟩ := h.mem.row id _ hl
  rw [hb] at h1
  obtain rfl := Option.some.inj h1
  exact h2.2
theorem MemI.own_ {σ : Store} {n : Nat} (h : MemI w H β σ n) {id k : Nat} {e : TypeId} {rows : List (List PV)} {O : Own} (hl : σ.lookup id = some (.own e k rows)) (hb : β id = some O) (hz : O.z = false) : O.k = k ∧ ∃ (cur : Array Value) (us : List Value), w.heap[O.b]? = some (.cells cur e (0, 0)) ∧ cur.size = O.c * O.k ∧ O.c ≤ maxLen ∧ rows.length ≤ O.c ∧ (∀ r ∈ rows, r.length = O.k) ∧
      cur.toList.take (rows.length * O.k) = us ∧ RepL w (gOf H β σ) noIds rows.flatten us := by
  obtain ⟨O', h1, h2⟩ := h.row id _ hl
  rw [hb] at h1
  obtain rfl := Option.some.inj h1
  rcases h2 with h2 | h2
  · rw [h2.1] at hz; cases hz
  · exact h2.2
theorem flat_get {rows : List (List PV)} {k : Nat} (hk : ∀ r ∈ rows, r.length = k) : ∀ {i : Nat} {r : List PV}, rows[i]? = some r → ∀ j, j < k → rows.flatten[i * k + j]? = r[j]? := by
  induction rows with
  | nil => intro i r h; simp at h
  | cons x rows ih =>
    intro i r h j hj
    have hx := hk x (by simp)
    cases i with
    | zero =>
      simp at h; subst h
      rw [List.flatten_cons, Nat.zero_mul, Nat.zero_add, List.getElem?_append_left (by omega)]
    | succ i =>
      rw [List.flatten_cons, List.getElem?_append_right (by rw [Nat.add_mul]; omega), hx, show (i + 1) * k + j - k = i * k + j by rw [Nat.add_mul]; omega]
      exact ih (fun r hr => hk r (by simp [hr])) (by simpa using h) j hj
theorem flat_len {rows : List (List PV)} {k : Nat} (hk : ∀ r ∈ rows, r.length = k) : rows.flatten.length = rows.length * k := by
  induction rows with
  | nil => simp
  | cons x rows ih => rw [List.flatten_cons, List.length_append, ih (fun r hr => hk r (by simp [hr])), hk x (by simp), List.length_cons, Nat.add_mul]; omega
theorem run_part {t : TypeId} {ps : List PV} {cs : Array Value} {off : Nat} {tv : TV} {G : Addr → Prop} (h : readRow P t ps off = some tv) (hl : RepL w G β ps cs.toList) :
    ∃ v, (part t cs off).run P w = .ok v w ∧ RepT w G β tv v := by
  unfold readRow at h
  obtain ⟨k, hk, h⟩ := Option.bind_eq_some_iff.1 h
  obtain ⟨d, hd, h⟩ := Option.bind_eq_some_iff.1 h
  unfold part
  rw [Sem.run_bind, run_agg hd, Result.andThen_ok]
  by_cases ha : aggD d = true
  · rw [if_pos ha] at h ⊢
    by_cases hle : off + k ≤ ps.length
    · rw [if_pos hle] at h
      obtain rfl := Option.some.inj h
      refine ⟨.agg (cs.extract off (off + k)), by rw [Sem.run_bind, run_size hk]; rfl, .agg ?_⟩
      have e : (cs.extract off (off + k)).toList = (cs.toList.drop off).take k := by
        rw [Array.toList_extract, List.extract_eq_take_drop]
        congr 1
        omega
      rw [e]
      exact (hl.drop off).take k
    · rw [if_neg hle] at h; cases h
  · rw [if_neg ha] at h ⊢
    obtain ⟨p, hp, rfl⟩ := Option.map_eq_some_iff.1 h
    obtain ⟨u, hu, hr⟩ := hl.get hp
    have hu' : cs[off]? = some u := by rw [← Array.getElem?_toList]; exact hu
    refine ⟨u, ?_, .one hr⟩
    simp only [hu']
    rfl
theorem rows_get {rows : List (List PV)} {us : List Value} {k i : Nat} {r : List PV} (hall : ∀ r ∈ rows, r.length = k) (hl : RepL w G noIds rows.flatten us) (hr : rows[i]? = some r) : RepL w G noIds r ((us.drop (i * k)).take k) ∧ i * k + k ≤ us.length := by
  have hfl := flat_len hall
  have hin : i < rows.length := (List.getElem?_eq_some_iff.1 hr).1
  have hmul : i * k + k ≤ rows.length * k := by
    have := Nat.mul_le_mul_right k (show i + 1 ≤ rows.length from hin)
    rwa [Nat.add_mul, Nat.one_mul] at this
  have hlen : r.length = k := hall r (List.mem_of_getElem? hr)
  refine ⟨⟨by rw [List.length_take, List.length_drop, hl.1, hfl]; omega, fun j p u hp hu => ?_⟩, by rw [hl.1, hfl]; exact hmul⟩
  rw [List.getElem?_take] at hu
  by_cases hj : j < k
  · rw [if_pos hj, List.getElem?_drop] at hu
    exact hl.2 _ _ _ (by rw [flat_get hall hr j hj]; exact hp) hu
  · rw [if_neg hj] at hu; cases hu
theorem Own.at_add (O : Own) (i j : Nat) : (O.at i).add j = O.at (i + j) := by unfold Own.at; rw [add_of_add]
theorem run_indexSl {t e : TypeId} {k : Nat} (he : elemD P t = some e) (hk : sizeP P e = some k) {ad : Addr} {n c : Nat} {kk : IntKind} {i : Int} (h0 : 0 ≤ i) (h1 : i < n) (w : World) :
    (Instr.indexAt t (.slice (some ad) n c) (.int kk i)).run P w = .ok (.pointer (some (ad.add (i.toNat * k)))) w := by
  unfold elemD at he
  split at he
  · rename_i e' hs
    obtain rfl := Option.some.inj he
    unfold Instr.indexAt
    simp only [asIntOf, Sem.run_bind, Sem.run, pure, Result.andThen_ok, run_underlying hs]
    simp only [run_size hk, Result.andThen_ok, if_pos (And.intro h0 h1), Sem.run_bind, Sem.run]
  · cases he
theorem run_indexArr {t e : TypeId} {k n : Nat} (he : arrD P t = some (n, e)) (hk : sizeP P e = some k) {ad : Addr} {kk : IntKind} {i : Int} (h0 : 0 ≤ i) (h1 : i < n) (w : World) :
    (Instr.indexAt t (.pointer (some ad)) (.int kk i)).run P w = .ok (.pointer (some (ad.add (i.toNat * k)))) w := by
  unfold arrD at he
  split at he
  · rename_i n' e' hs
    obtain ⟨rfl, rfl⟩ := Prod.mk.inj (Option.some.inj he)
    unfold Instr.indexAt
    simp only [asIntOf, Sem.run_bind, Sem.run, pure, Result.andThen_ok, run_underlying hs, Instr.sureAddr]
    simp only [run_size hk, Result.andThen_ok, if_pos (And.intro h0 h1), Sem.run_bind, Sem.run]
  · cases he
theorem Inv.nat_ (h : Inv ds N W X H β st a w) {x : Operand} {i : Nat} (e : st.nat? x = some i) : ∃ k, a.eval x = .int k (i : Int) := by
  unfold SSt.nat? at e
  split at e
  · rename_i k j hv
    split at e
    · obtain rfl := Option.some.inj e
      refine ⟨k, ?_⟩
      rw [h.val_ hv]
      congr 1
      omega
    · cases e
  · cases e
theorem load_run {st : SSt} {t : TypeId} {x : Operand} {tv : TV} (h : Inv ds N W X H β st a w) (e : (match st.eval x with
    | some (.one (.ptr xs off)) => readRow P t xs off
    | some (.one (.box id off)) => (match st.boxes.lookup id with
      | some (.var xs) => readRow P t xs off
      | _ => none)
    | some (.one (.elp id i off)) => (match st.boxes.lookup id with
      | some (.own _ _ rows) => (rows[i]?).bind fun r => readRow P t r off
      | _ => none)
    | _ => none) = some tv) : ∃ v, (Instr.loadAt t (a.eval x)).run P w = .ok v w ∧ RepT w (st.G H β) β tv v := by
  split at e
  · rename_i xs off hx
    obtain ⟨ad, us, hv, hl, hc⟩ := (h.eval hx).ptr_
    obtain ⟨v, hr, hrep⟩ := run_read (P := P) e hl (fun i u hu => (hc i u hu).1)
    exact ⟨v, by rw [hv]; exact hr, hrep.more noIds_more⟩
  · rename_i id off hx
    split at e
    · rename_i xs hb
      obtain ⟨O, hO, hz, hv⟩ := (h.eval hx).box_
      obtain ⟨ty, us, hh, hl⟩ := h.var_ hb hO
      obtain ⟨v, hr, hrep⟩ := run_read (P := P) (ad := ⟨O.b, 0, none⟩) e hl (fun i u hu => by rw [cell_at hh, hu])
      exact ⟨v, by rw [hv]; exact hr, hrep⟩
    · cases e
  · rename_i id i off hx
    split at e
    · rename_i e' k' rows hb
      obtain ⟨O, hO, hz, hv⟩ := (h.eval hx).elp_
      obtain ⟨r, hr, e⟩ := Option.bind_eq_some_iff.1 e
      obtain ⟨hkk', cur, us, h1, h2, h3, h4, h5, h6, h7⟩ := h.mem.own_ hb hO hz
      obtain ⟨h8, h9⟩ := rows_get h5 h7 hr
      obtain ⟨v, hrun, hrep⟩ := run_read (P := P) (ad := O.at (i * O.k)) e h8 (fun j u hu => by
        rw [Own.at_add]
        unfold Own.at
        rw [cell_at' h1]
        rw [List.getElem?_take] at hu
        by_cases hj : j < O.k
        · rw [if_pos hj, List.getElem?_drop, ← h6, List.getElem?_take] at hu
          split at hu
          · exact hu
          · cases hu
        · rw [if_neg hj] at hu; cases hu)
      refine ⟨v, ?_, hrep.more noIds_more⟩
      rw [hv, ← Own.at_add]
      exact hrun
    · cases e
  · cases e
end
end Go.Proofs.YtbljhngekhgbbaaGreat
namespace Go.Proofs.YtbljhngekhgbbaaGreat
open Go.RowKit
set_option linter.unusedVariables false
set_option linter.unusedSectionVars false
set_option linter.unusedSimpArgs false
section
variable {ds : List Deferred} {P : Program} {N : Nat} {W w w' : World} {H : Addr → Prop} {β : Ids} {X : Nat → Prop} {st : SSt} {a : Act} {K : Act → World → Prop} {Q : Exit → Act → World → Prop} {G : Addr → Prop}
def boundOf (v : Option Value) (d n : Nat) : Prop := (v = none ∧ n = d) ∨ ∃ k, v = some (.int k (n : Int))
theorem Inv.bound_ (h : Inv ds N W X H β st a w) {d l : Nat} {x : Option Operand} (e : st.nat?? d x = some l) : boundOf (x.map a.eval) d l := by
  cases x with
  | none => simp only [SSt.nat??, Option.some.injEq] at e; exact .inl ⟨rfl, e.symm⟩
  | some x =>
    obtain ⟨k, hk⟩ := h.nat_ (x := x) e
    exact .inr ⟨k, by simp [hk]⟩
theorem run_sb {k : IntKind} {l h : Nat} {code : BoundsCode} (h1 : l ≤ h) (w : World) : (Instr.sliceBound (.int k (l : Int)) h code).run P w = .ok l w := by
  have e1 : (0 : Int) ≤ (l : Int) ∧ (l : Int) ≤ (h : Int) := by omega
  unfold Instr.sliceBound
  simp only [asIntOf, Sem.run_bind, Sem.run, pure, Result.andThen_ok, if_pos e1, Int.toNat_natCast]
theorem run_slice {t e : TypeId} {k l h m n c : Nat} {A : Option Addr} {lo hi mx : Option Value} (ht : P.underlying t = some (.slice e)) (hk : sizeP P e = some k) (hlo : boundOf lo 0 l) (hhi : boundOf hi n h)
    (hmx : (mx = none ∧ m = c) ∨ ((∃ k, mx = some (.int k (m : Int))) ∧ hi.isSome = true)) (h1 : l ≤ h) (h2 : h ≤ m) (h3 : m ≤ c) (w : World) :
    (Instr.sliceAt t (.slice A n c) lo hi mx).run P w = .ok (.slice (if m = l then A else A.map (·.add (l * k))) (h - l) (m - l)) w := by
  have e1 : (0 : Int) ≤ (l : Int) ∧ (l : Int) ≤ (h : Int) := by omega
  have e2 : (0 : Int) ≤ (h : Int) ∧ (h : Int) ≤ (m : Int) := by omega
  have e3 : (0 : Int) ≤ (m : Int) ∧ (m : Int) ≤ (c : Int) := by omega
  unfold Instr.sliceAt
  rw [Sem.run_bind, run_underlying ht, Result.andThen_ok]
  simp only
  unfold Instr.slice
  rw [Sem.run_bind, run_underlying ht, Result.andThen_ok]
  simp only
  have hb : (Instr.sliceBounds true n c lo hi mx).run P w = .ok (l, h, m) w := by
    unfold Instr.sliceBounds
    rcases hmx with ⟨rfl, rfl⟩ | ⟨⟨k3, rfl⟩, hs⟩
    · rcases hhi with ⟨rfl, rfl⟩ | ⟨k2, rfl⟩
      · rcases hlo with ⟨rfl, rfl⟩ | ⟨k1, rfl⟩
        · simp [Sem.run_bind, Sem.run, pure]
        · simp [Sem.run_bind, Sem.run, pure, run_sb h1]
      · rcases hlo with ⟨rfl, rfl⟩ | ⟨k1, rfl⟩
        · simp [Sem.run_bind, Sem.run, pure, run_sb h2]
        · simp [Sem.run_bind, Sem.run, pure, run_sb h1, run_sb h2]
    · rcases hhi with ⟨rfl, rfl⟩ | ⟨k2, rfl⟩
      · simp at hs
      · rcases hlo with ⟨rfl, rfl⟩ | ⟨k1, rfl⟩
        · simp [Sem.run_bind, Sem.run, pure, run_sb h2, run_sb h3]
        · simp [Sem.run_bind, Sem.run, pure, run_sb h1, run_sb h2, run_sb h3]
  rw [Sem.run_bind, hb, Result.andThen_ok]
  simp only
  rw [Sem.run_bind, run_size hk, Result.andThen_ok]
  rfl
theorem run_sliceT {t : TypeId} {l h : Nat} {s : ByteArray} {lo hi : Option Value} (ht : P.underlying t = some .string) (hlo : boundOf lo 0 l) (hhi : boundOf hi s.size h) (h1 : l ≤ h) (h2 : h ≤ s.size) (w : World) :
    (Instr.sliceAt t (.string s) lo hi none).run P w = .ok (.string (s.extract l h)) w := by
  have e1 : (0 : Int) ≤ (l : Int) ∧ (l : Int) ≤ (h : Int) := by omega
  have e2 : (0 : Int) ≤ (h : Int) ∧ (h : Int) ≤ (s.size : Int) := by omega
  unfold Instr.sliceAt
  rw [Sem.run_bind, run_underlying ht, Result.andThen_ok]
  simp only
  unfold Instr.slice
  rw [Sem.run_bind, run_underlying ht, Result.andThen_ok]
  have hb : (Instr.sliceBounds false s.size s.size lo hi none).run P w = .ok (l, h, s.size) w := by
    unfold Instr.sliceBounds
    rcases hhi with ⟨rfl, rfl⟩ | ⟨k2, rfl⟩
    · rcases hlo with ⟨rfl, rfl⟩ | ⟨k1, rfl⟩
      · simp [Sem.run_bind, Sem.run, pure]
      · simp [Sem.run_bind, Sem.run, pure, run_sb h1]
    · rcases hlo with ⟨rfl, rfl⟩ | ⟨k1, rfl⟩
      · simp [Sem.run_bind, Sem.run, pure, run_sb h2]
      · simp [Sem.run_bind, Sem.run, pure, run_sb h1, run_sb h2]
  simp only [Option.isSome_none, Bool.false_eq_true, if_false]
  rw [Sem.run_bind, hb, Result.andThen_ok]
  rfl
theorem elemD_ {t e : TypeId} (he : elemD P t = some e) : P.underlying t = some (.slice e) := by
  unfold elemD at he
  split at he
  · rename_i e' hs
    obtain rfl := Option.some.inj he
    exact hs
  · cases he
theorem all_len {rows : List (List PV)} {k : Nat} (h : rows.all (·.length == k) = true) : ∀ r ∈ rows, r.length = k := fun r hr => by simpa using List.all_eq_true.1 h r hr
/-- a part of what is only read stands for the slice of it -/
theorem rep_cut {x' : Bool} {rows : List (List PV)} {k l h m : Nat} {A : Option Addr} (hall : ∀ r ∈ rows, r.length = k) (h1 : l ≤ h) (h2 : h ≤ rows.length) (h3 : h ≤ m) (hx : x' = true → m = h) (hA : A = none → m = 0)
    (hrow : rows ≠ [] → ∃ (ad : Addr) (us : List Value) (k : Nat), A = some ad ∧ (∀ r ∈ rows, r.length = k) ∧ RepL w G noIds rows.flatten us ∧ ∀ (i : Nat) (u : Value), us[i]? = some u → w.cell? (ad.add i) = some u ∧ G (ad.add i)) :
    RepT w G β (.one (.sl x' ((rows.take h).drop l))) (.slice (if m = l then A else A.map (·.add (l * k))) (h - l) (m - l)) := by
  have hlen : ((rows.take h).drop l).length = h - l := by rw [List.length_drop, List.length_take]; omega
  by_cases hlh : l = h
  · subst hlh
    have e0 : (rows.take l).drop l = [] := List.eq_nil_of_length_eq_zero (by rw [hlen]; omega)
    rw [e0, Nat.sub_self]
    refine .one (.sl0 (fun hx' => by rw [hx hx']; omega) (fun hn => ?_))
    have : A = none := by
      cases A with
      | none => rfl
      | some ad => split at hn <;> simp at hn
    rw [hA this]; omega
  · have hne : rows ≠ [] := fun e => by rw [e] at h2; simp at h2; omega
    obtain ⟨ad, us, k', rfl, hall', hl, hc⟩ := hrow hne
    have hk : k' = k := by
      cases rows with
      | nil => exact absurd rfl hne
      | cons r rs => rw [← hall' r (by simp), hall r (by simp)]
    subst hk
    rw [if_neg (by omega), Option.map_some, ← hlen]
    have hfl := flat_len hall'
    have hall2 : ∀ r ∈ (rows.take h).drop l, r.length = k' := fun r hr => hall' r (List.mem_of_mem_take (List.mem_of_mem_drop hr))
    have hfl2 := flat_len hall2
    have hget : ∀ i p, ((rows.take h).drop l).flatten[i]? = some p → rows.flatten[l * k' + i]? = some p := by
      intro i p hp
      have hi : i < ((rows.take h).drop l).length * k' := by rw [← hfl2]; exact (List.getElem?_eq_some_iff.1 hp).1
      have hk0 : 0 < k' := by
        rcases Nat.eq_zero_or_pos k' with h | h
        · rw [h] at hi; omega
        · exact h
      have hq : i / k' < ((rows.take h).drop l).length := Nat.div_lt_of_lt_mul (by rw [Nat.mul_comm]; exact hi)
      have hr : ((rows.take h).drop l)[i / k']? = some ((rows.take h).drop l)[i / k'] := List.getElem?_eq_getElem hq
      have hm := Nat.mod_lt i hk0
      have hdm : i / k' * k' + i % k' = i := Nat.div_add_mod' i k'
      have g1 := flat_get hall2 hr (i % k') hm
      rw [hdm, hp] at g1
      rw [List.getElem?_drop, List.getElem?_take] at hr
      split at hr
      · have g2 := flat_get hall' hr (i % k') hm
        rw [Nat.add_mul, Nat.add_assoc, hdm] at g2
        rw [g2, ← g1]
      · cases hr
    refine .one (.sl (k := k') (us := (us.drop (l * k')).take ((h - l) * k')) (by rw [hlen]; omega) (fun hx' => by rw [hlen, hx hx']) hall2 ?_ (fun i u hu => ?_) (fun i p u hp hu => ?_))
    · rw [List.length_take, List.length_drop, hl.1, hfl, hfl2, hlen, Nat.sub_mul]
      have := Nat.mul_le_mul_right k' h2
      have := Nat.mul_le_mul_right k' h1
      omega
    · rw [List.getElem?_take] at hu
      split at hu
      · rw [List.getElem?_drop] at hu
        rw [add_of_add]
        exact hc _ _ hu
      · cases hu
    · rw [List.getElem?_take] at hu
      split at hu
      · rw [List.getElem?_drop] at hu
        exact hl.2 _ _ _ (hget i p hp) hu
      · cases hu
end
end Go.Proofs.YtbljhngekhgbbaaGreat
namespace Go.Proofs.YtbljhngekhgbbaaGreat
open Go.RowKit
set_option linter.unusedVariables false
set_option linter.unusedSectionVars false
set_option linter.unusedSimpArgs false
section
variable {ds : List Deferred} {P : Program} {N : Nat} {W w w' : World} {H : Addr → Prop} {β : Ids} {X : Nat → Prop} {st : SSt} {a : Act} {K : Act → World → Prop} {Q : Exit → Act → World → Prop} {G : Addr → Prop}
theorem Inv.pvs_ (h : Inv ds N W X H β st a w) : ∀ {xs : List Operand} {ps : List PV}, st.pvs xs = some ps → RepL w (st.G H β) β ps (xs.map a.eval)
  | [], ps, e => by simp [SSt.pvs] at e; subst e; exact RepL.nil_
  | x :: xs, ps, e => by
    simp only [SSt.pvs] at e
    split at e
    · rename_i p hx
      obtain ⟨qs, hq, rfl⟩ := Option.map_eq_some_iff.1 e
      rw [List.map_cons]
      have := h.eval hx
      generalize a.eval x = u at this ⊢
      cases this with
      | one hp => exact RepL.cons_.2 ⟨hp, h.pvs_ hq⟩
    · cases e
theorem arrD_ {t e : TypeId} {n : Nat} (h : arrD P t = some (n, e)) : P.underlying t = some (.array n e) := by
  unfold arrD at h
  split at h
  · rename_i n' e' hs
    obtain ⟨rfl, rfl⟩ := Prod.mk.inj (Option.some.inj h)
    exact hs
  · cases h
theorem slice_op {dst : Option Nat} {ty : TypeId} {pos : String} {af : Array Edge} {gd : Option (Nat × Bool)} {t : TypeId} {x : Operand} {lo hi mx : Option Operand} {tv : TV} (h : Inv ds N W X H β st a w) (e : sopV P st ⟨dst, .slice t x lo hi mx, ty, pos, af, gd⟩ = some tv) :
    ∃ v, (Instr.sliceAt t (a.eval x) (lo.map a.eval) (hi.map a.eval) (mx.map a.eval)).run P w = .ok v w ∧ RepT w (st.G H β) β tv v := by
  unfold sopV at e
  dsimp only at e
  have e2 := Option.bind_eq_some_iff.1 e; clear e; obtain ⟨l, hl, e⟩ := e2
  have bl := h.bound_ hl
  split at e
  · rename_i x' rows hx
    have e2 := Option.bind_eq_some_iff.1 e; clear e; obtain ⟨el, he, e⟩ := e2
    have e2 := Option.bind_eq_some_iff.1 e; clear e; obtain ⟨k, hk, e⟩ := e2
    have e2 := Option.bind_eq_some_iff.1 e; clear e; obtain ⟨hh, hhh, e⟩ := e2
    have bh := h.bound_ hhh
    obtain ⟨A, c, hv, hc, hxc, hA, hrow⟩ := (h.eval hx).sl_
    rw [hv]
    split at e
    · split at e
      · rename_i hall
        unfold cutSl at e
        dsimp only at e
        split at e
        · rename_i hc1
          obtain rfl := Option.some.inj e
          refine ⟨_, run_slice (elemD_ he) hk bl bh (.inl ⟨rfl, rfl⟩) hc1.1 (Nat.le_trans hc1.2 hc) (Nat.le_refl _) w, rep_cut (all_len hall) hc1.1 hc1.2 (Nat.le_trans hc1.2 hc) (fun hx' => ?_) hA hrow⟩
          simp only [Bool.and_eq_true, beq_iff_eq] at hx'
          rw [hxc hx'.1, hx'.2]
        · cases e
      · cases e
    · rename_i m0
      have e2 := Option.bind_eq_some_iff.1 e; clear e; obtain ⟨m, hm, e⟩ := e2
      obtain ⟨km, hkm⟩ := h.nat_ hm
      split at e
      · rename_i hall
        unfold cutSl at e
        dsimp only at e
        split at e
        · rename_i hc1
          obtain rfl := Option.some.inj e
          refine ⟨_, run_slice (elemD_ he) hk bl bh (.inr ⟨⟨km, by rw [Option.map_some, hkm]⟩, by simpa using hall.1⟩) hc1.1 hc1.2.1 (Nat.le_trans hc1.2.2 hc) w, rep_cut (all_len hall.2) hc1.1 (Nat.le_trans hc1.2.1 hc1.2.2) hc1.2.1 (fun hx' => ?_) (fun hn => by have := hA hn; omega) hrow⟩
          simpa using hx'
        · cases e
      · cases e
  · rename_i id o n hx
    have e2 := Option.bind_eq_some_iff.1 e; clear e; obtain ⟨el, he, e⟩ := e2
    have e2 := Option.bind_eq_some_iff.1 e; clear e; obtain ⟨k, hk, e⟩ := e2
    have e2 := Option.bind_eq_some_iff.1 e; clear e; obtain ⟨hh, hhh, e⟩ := e2
    have bh := h.bound_ hhh
    obtain ⟨O, hO, hcase⟩ := (h.eval hx).osl_
    split at e
    · rename_i e' k' rows hb
      split at e
      · rename_i hall
        unfold cutOs at e
        split at e
        · rename_i hc1
          obtain rfl := Option.some.inj e
          rcases hcase with ⟨hz, hn, hv⟩ | ⟨hz, rfl, rfl, A, hv⟩
          · obtain ⟨hkk', cur, us, h1, h2, h3, h4, h5, h6, h7⟩ := h.mem.own_ hb hO hz
            have hkk : O.k = k := by
              cases rows with
              | nil => exact absurd rfl hall.2
              | cons r rs => rw [← h5 r (by simp), all_len hall.1 r (by simp)]
            rw [hv]
            refine ⟨_, run_slice (elemD_ he) hk bl bh (.inl ⟨rfl, rfl⟩) hc1.1 (by omega) (Nat.le_refl _) w, ?_⟩
            by_cases hl0 : l = 0
            · subst hl0
              rw [if_pos rfl, Nat.zero_mul]
              have e0 : (if O.c - o = 0 then some (O.at (o * O.k)) else Option.map (fun x => x.add 0) (some (O.at (o * O.k)))) = some (O.at (o * O.k)) := by
                split
                · rfl
                · rw [Option.map_some, Own.at_add, Nat.add_zero]
              rw [e0, Nat.sub_zero, Nat.sub_zero]
              exact .one (.osl hO hz (by omega))
            · rw [if_neg hl0]
              by_cases hlh : l = hh
              · subst hlh
                rw [if_pos rfl, Nat.sub_self]
                exact .one (.sl0 (fun h => by cases h) (fun h => by split at h <;> simp at h))
              · rw [if_neg hlh, if_neg (by omega), Option.map_some, Own.at_add, ← hkk, ← Nat.add_mul, Nat.sub_sub]
                exact .one (.osl hO hz (by omega))
          · have hl0 : l = 0 := by omega
            have hh0 : hh = 0 := by omega
            subst hl0
            subst hh0
            rw [hv]
            refine ⟨_, run_slice (elemD_ he) hk bl bh (.inl ⟨rfl, rfl⟩) hc1.1 (by omega) (Nat.le_refl _) w, ?_⟩
            rw [if_pos rfl, if_pos rfl]
            exact .one (.osl0 hO hz)
        · cases e
      · cases e
    · cases e
  · rename_i s hx
    have e2 := Option.bind_eq_some_iff.1 e; clear e; obtain ⟨hh, hhh, e⟩ := e2
    have bh := h.bound_ hhh
    have hv := (h.eval hx).val (u := .string s) rfl
    split at e
    · rename_i ht
      split at e
      · rename_i hc1
        obtain rfl := Option.some.inj e
        rw [hv]
        exact ⟨_, run_sliceT ht bl bh hc1.1 hc1.2 w, .one (.lit rfl)⟩
      · cases e
    · cases e
  · cases e
theorem idx_op {dst : Option Nat} {ty : TypeId} {pos : String} {af : Array Edge} {gd : Option (Nat × Bool)} {t : TypeId} {x i : Operand} {tv : TV} (h : Inv ds N W X H β st a w) (e : sopV P st ⟨dst, .indexAddr t x i, ty, pos, af, gd⟩ = some tv) :
    ∃ v, (Instr.indexAt t (a.eval x) (a.eval i)).run P w = .ok v w ∧ RepT w (st.G H β) β tv v := by
  unfold sopV at e
  dsimp only at e
  have e2 := Option.bind_eq_some_iff.1 e; clear e; obtain ⟨j, hj, e⟩ := e2
  obtain ⟨kk, hkj⟩ := h.nat_ hj
  rw [hkj]
  split at e
  · rename_i n el ha
    have e2 := Option.bind_eq_some_iff.1 e; clear e; obtain ⟨k, hk, e⟩ := e2
    split at e
    · rename_i hlt
      have hrun := fun ad : Addr => run_indexArr (P := P) ha hk (ad := ad) (kk := kk) (i := (j : Int)) (by omega) (by omega) w
      simp only [Int.toNat_natCast] at hrun
      split at e
      · rename_i xs off hx
        obtain ⟨ad, us, hv, hl, hc⟩ := (h.eval hx).ptr_
        obtain rfl := Option.some.inj e
        refine ⟨_, by rw [hv]; exact hrun _, ?_⟩
        rw [add_of_add]
        exact .one (.ptr hl.1 hc hl.2)
      · rename_i id off hx
        obtain ⟨O, hO, hz, hv⟩ := (h.eval hx).box_
        obtain rfl := Option.some.inj e
        refine ⟨_, by rw [hv]; exact hrun _, ?_⟩
        rw [Own.at_add]
        exact .one (.box hO hz)
      · cases e
    · cases e
  · have e2 := Option.bind_eq_some_iff.1 e; clear e; obtain ⟨el, he, e⟩ := e2
    have e2 := Option.bind_eq_some_iff.1 e; clear e; obtain ⟨k, hk, e⟩ := e2
    split at e
    · rename_i x' rows hx
      split at e
      · rename_i r hr
        split at e
        · rename_i hlen
          obtain rfl := Option.some.inj e
          obtain ⟨A, c, hv, hc, -, -, hrow⟩ := (h.eval hx).sl_
          have hne : rows ≠ [] := fun e => by rw [e] at hr; simp at hr
          obtain ⟨ad, us, k', rfl, hall, hl, hcell⟩ := hrow hne
          have hkk : k' = k := by rw [← hlen]; exact (hall r (List.mem_of_getElem? hr)).symm
          subst hkk
          have hin : j < rows.length := (List.getElem?_eq_some_iff.1 hr).1
          have hrun := run_indexSl (P := P) he hk (ad := ad) (n := rows.length) (c := c) (kk := kk) (i := (j : Int)) (by omega) (by omega) w
          rw [Int.toNat_natCast] at hrun
          refine ⟨.pointer (some (ad.add (j * k'))), by rw [hv]; exact hrun, ?_⟩
          obtain ⟨h8, h9⟩ := rows_get hall hl hr
          have e0 : ad.add (j * k') = (ad.add (j * k')).add 0 := by rw [add_of_add]; rfl
          rw [e0]
          refine .one (.ptr h8.1 (fun q u hu => ?_) h8.2)
          rw [List.getElem?_take] at hu
          split at hu
          · rw [List.getElem?_drop] at hu
            rw [add_of_add]
            exact hcell _ _ hu
          · cases hu
        · cases e
      · cases e
    · rename_i id o n hx
      split at e
      · rename_i e' k' rows hb
        split at e
        · rename_i hlt
          split at e
          · rename_i r hr
            split at e
            · rename_i hlen
              obtain rfl := Option.some.inj e
              obtain ⟨O, hO, hcase⟩ := (h.eval hx).osl_
              rcases hcase with ⟨hz, hn, hv⟩ | ⟨hz, rfl, rfl, A, hv⟩
              · obtain ⟨hkk', cur, us, h1, h2, h3, h4, h5, h6, h7⟩ := h.mem.own_ hb hO hz
                have hkk : O.k = k := by rw [← hlen]; exact (h5 r (List.mem_of_getElem? hr)).symm
                have hrun := run_indexSl (P := P) he hk (ad := O.at (o * O.k)) (n := n) (c := O.c - o) (kk := kk) (i := (j : Int)) (by omega) (by omega) w
                rw [Int.toNat_natCast] at hrun
                refine ⟨_, by rw [hv]; exact hrun, ?_⟩
                rw [Own.at_add, ← hkk, ← Nat.add_mul]
                exact .one (.elp (off := 0) hO hz)
              · omega
            · cases e
          · cases e
        · cases e
      · cases e
    · cases e
set_option maxHeartbeats 1000000 in
theorem sopV_run {o : Oper} {tv : TV} (h : Inv ds N W X H β st a w) (e : sopV P st o = some tv) : ∃ v, (execOp a.eval o).run P w = .ok (.value v) w ∧ RepT w (st.G H β) β tv v := by
  obtain ⟨dst, op, ty, pos, after, guard⟩ := o
  have e0 := e
  unfold sopV at e
  unfold execOp
  cases op with
  | move x => exact ⟨_, rfl, h.eval e⟩
  | assign x => exact ⟨_, rfl, h.eval e⟩
  | pick c x y =>
    dsimp only at e ⊢
    split at e
    · rename_i b hb
      have hv := (h.eval hb).val (u := .bool b) rfl
      rw [hv]
      cases b with
      | true => exact ⟨_, rfl, h.eval (by simpa using e)⟩
      | false => exact ⟨_, rfl, h.eval (by simpa using e)⟩
    · cases e
  | load t x =>
    obtain ⟨v, hr, hrep⟩ := load_run h e
    exact ⟨v, ok_v hr, hrep⟩
  | nilCheck x =>
    dsimp only at e ⊢
    split at e
    · rename_i xs off hx
      obtain rfl := Option.some.inj e
      have hr := h.eval hx
      obtain ⟨ad, us, hv, -⟩ := hr.ptr_
      rw [hv] at hr ⊢
      exact ⟨_, rfl, hr⟩
    · rename_i id off hx
      obtain rfl := Option.some.inj e
      have hr := h.eval hx
      obtain ⟨O, -, -, hv⟩ := hr.box_
      rw [hv] at hr ⊢
      exact ⟨_, rfl, hr⟩
    · rename_i id i off hx
      obtain rfl := Option.some.inj e
      have hr := h.eval hx
      obtain ⟨O, -, -, hv⟩ := hr.elp_
      rw [hv] at hr ⊢
      exact ⟨_, rfl, hr⟩
    · rename_i g f c hx
      obtain rfl := Option.some.inj e
      have hr := h.eval hx
      generalize a.eval x = u at hr
      cases hr with
      | one hp =>
        cases hp with
        | clo h1 h2 hf hc => exact ⟨_, rfl, .one (.clo h1 h2 hf hc)⟩
    · rename_i g f c hx
      obtain rfl := Option.some.inj e
      have hr := h.eval hx
      have hv := hr.val (u := .func (.func g) f c) rfl
      rw [hv] at hr ⊢
      exact ⟨_, rfl, hr⟩
    · cases e
  | binOp op t x y yt =>
    obtain ⟨vx, hx, e⟩ := Option.bind_eq_some_iff.1 e
    obtain ⟨vy, hy, e⟩ := Option.bind_eq_some_iff.1 e
    obtain ⟨v, hp, e⟩ := Option.bind_eq_some_iff.1 e
    refine ⟨v, ?_, rep_ofVal e⟩
    dsimp only
    rw [h.val_ hx, h.val_ hy]
    exact ok_v (pureRun_ok P hp w)
  | unOp op t x =>
    obtain ⟨vx, hx, e⟩ := Option.bind_eq_some_iff.1 e
    obtain ⟨v, hp, e⟩ := Option.bind_eq_some_iff.1 e
    refine ⟨v, ?_, rep_ofVal e⟩
    dsimp only
    rw [h.val_ hx]
    exact ok_v (pureRun_ok P hp w)
  | convert s d x =>
    obtain ⟨vx, hx, e⟩ := Option.bind_eq_some_iff.1 e
    obtain ⟨v, hp, e⟩ := Option.bind_eq_some_iff.1 e
    refine ⟨v, ?_, rep_ofVal e⟩
    dsimp only
    rw [h.val_ hx]
    exact ok_v (pureRun_ok P hp w)
  | index t x i =>
    dsimp only at e ⊢
    split at e
    · rename_i n el ha
      obtain ⟨j, hj, e⟩ := Option.bind_eq_some_iff.1 e
      obtain ⟨kk, hkj⟩ := h.nat_ hj
      obtain ⟨k, hk, e⟩ := Option.bind_eq_some_iff.1 e
      split at e
      · rename_i ps hx
        split at e
        · rename_i hlt
          have hr := h.eval hx
          generalize a.eval x = u at hr
          cases hr with
          | agg hl =>
            obtain ⟨v, hv, hrep⟩ := run_part (P := P) e hl
            refine ⟨v, ok_v ?_, hrep⟩
            rw [hkj]
            have hc : (0 : Int) ≤ (j : Int) ∧ (j : Int) < (n : Int) := by omega
            unfold Instr.index
            simp only [asIntOf, Sem.run_bind, Sem.run, pure, Result.andThen_ok, run_underlying (arrD_ ha), run_size hk, if_pos hc, Int.toNat_natCast]
            exact hv
        · cases e
      · cases e
    · obtain ⟨vx, hx, e⟩ := Option.bind_eq_some_iff.1 e
      obtain ⟨vi, hi, e⟩ := Option.bind_eq_some_iff.1 e
      obtain ⟨v, hp, e⟩ := Option.bind_eq_some_iff.1 e
      refine ⟨v, ?_, rep_ofVal e⟩
      rw [h.val_ hx, h.val_ hi]
      exact ok_v (pureRun_ok P hp w)
  | slice t x lo hi mx =>
    obtain ⟨v, hr, hrep⟩ := slice_op h e0
    exact ⟨v, ok_v hr, hrep⟩
  | fieldAddr s x f =>
    obtain ⟨fd, hf, e⟩ := Option.bind_eq_some_iff.1 e
    obtain ⟨k, hk, e⟩ := Option.bind_eq_some_iff.1 e
    dsimp only at e ⊢
    split at e
    · cases e
    · rename_i h0
      split at e
      · rename_i xs off hx
        obtain ⟨ad, us, hv, hl, hc⟩ := (h.eval hx).ptr_
        obtain rfl := Option.some.inj e
        refine ⟨.pointer (some ((ad.add off).add fd.offset)), ok_v ?_, ?_⟩
        · rw [hv]; exact run_fieldPlace hf hk h0 w
        · rw [add_of_add]; exact .one (.ptr hl.1 hc hl.2)
      · rename_i id off hx
        obtain ⟨O, hO, hz, hv⟩ := (h.eval hx).box_
        obtain rfl := Option.some.inj e
        refine ⟨.pointer (some ((O.at off).add fd.offset)), ok_v ?_, ?_⟩
        · rw [hv]; exact run_fieldPlace hf hk h0 w
        · rw [Own.at_add]; exact .one (.box hO hz)
      · rename_i id i off hx
        obtain ⟨O, hO, hz, hv⟩ := (h.eval hx).elp_
        obtain rfl := Option.some.inj e
        refine ⟨.pointer (some ((O.at (i * O.k + off)).add fd.offset)), ok_v ?_, ?_⟩
        · rw [hv]; exact run_fieldPlace hf hk h0 w
        · rw [Own.at_add, Nat.add_assoc]; exact .one (.elp hO hz)
      · cases e
  | field s x f =>
    obtain ⟨fd, hf, e⟩ := Option.bind_eq_some_iff.1 e
    dsimp only at e ⊢
    split at e
    · rename_i ps hx
      have hr := h.eval hx
      generalize a.eval x = u at hr
      cases hr with
      | agg hl =>
        obtain ⟨v, hv, hrep⟩ := run_part (P := P) e hl
        refine ⟨v, ok_v ?_, hrep⟩
        unfold fieldD at hf
        split at hf
        · rename_i fs hs
          unfold Instr.field
          rw [Sem.run_bind, run_underlying hs, Result.andThen_ok]
          simp only [hf]
          exact hv
        · cases hf
    · cases e
  | indexAddr t x i =>
    obtain ⟨v, hr, hrep⟩ := idx_op h e0
    exact ⟨v, ok_v hr, hrep⟩
  | extract x i =>
    dsimp only at e ⊢
    split at e
    · rename_i ts hx
      have hr := h.eval hx
      generalize a.eval x = u at hr
      cases hr with
      | tup hl hh =>
        rename_i vs
        have hlt : i < vs.size := by rw [hl]; exact (List.getElem?_eq_some_iff.1 e).1
        refine ⟨vs[i], ?_, hh i _ _ e (Array.getElem?_eq_getElem hlt)⟩
        apply ok_v
        unfold Instr.extract
        simp only [Array.getElem?_eq_getElem hlt]
        rfl
    · cases e
  | call c =>
    obtain ⟨callee, args, ts⟩ := c
    cases callee with
    | builtin b =>
      cases b with
      | len =>
        obtain ⟨t, ht, e⟩ := Option.bind_eq_some_iff.1 e
        obtain ⟨x, hx, e⟩ := Option.bind_eq_some_iff.1 e
        have hargs : (args.map a.eval)[0]? = some (a.eval x) := by rw [Array.getElem?_map, hx]; rfl
        dsimp only at e ⊢
        split at e
        · rename_i x' rows el hxs hs
          obtain rfl := Option.some.inj e
          obtain ⟨A, c, hv, -⟩ := (h.eval hxs).sl_
          refine ⟨.int .i64 rows.length, ok_v (s := Builtin.len_ ts ty (args.map a.eval)) ?_, .one (.lit rfl)⟩
          unfold Builtin.len_
          simp only [ht, hargs, hv]
          rw [Sem.run_bind, run_underlying hs]
          rfl
        · rename_i id o n el hxs hs
          obtain rfl := Option.some.inj e
          have hv : ∃ A c, a.eval x = .slice A n c := by
            obtain ⟨O, -, hcase⟩ := (h.eval hxs).osl_
            rcases hcase with ⟨-, -, hv⟩ | ⟨-, -, rfl, A, hv⟩
            · exact ⟨_, _, hv⟩
            · exact ⟨_, _, hv⟩
          obtain ⟨A, c, hv⟩ := hv
          refine ⟨.int .i64 n, ok_v (s := Builtin.len_ ts ty (args.map a.eval)) ?_, .one (.lit rfl)⟩
          unfold Builtin.len_
          simp only [ht, hargs, hv]
          rw [Sem.run_bind, run_underlying hs]
          rfl
        · rename_i s hxs hs
          obtain rfl := Option.some.inj e
          have hv := (h.eval hxs).val (u := .string s) rfl
          refine ⟨.int .i64 s.size, ok_v (s := Builtin.len_ ts ty (args.map a.eval)) ?_, .one (.lit rfl)⟩
          unfold Builtin.len_
          simp only [ht, hargs, hv]
          rw [Sem.run_bind, run_underlying hs]
          rfl
        · cases e
      | min =>
        obtain ⟨vs, hvs, e⟩ := Option.bind_eq_some_iff.1 e
        obtain ⟨v, hp, e⟩ := Option.bind_eq_some_iff.1 e
        refine ⟨v, ok_v (s := Builtin.min_ ts ty (args.map a.eval)) ?_, rep_ofVal e⟩
        have e1 : args.map a.eval = vs.toArray := Array.ext' (by rw [Array.toList_map, h.valsO_ hvs])
        rw [e1]
        exact pureRun_ok P hp w
      | max =>
        obtain ⟨vs, hvs, e⟩ := Option.bind_eq_some_iff.1 e
        obtain ⟨v, hp, e⟩ := Option.bind_eq_some_iff.1 e
        refine ⟨v, ok_v (s := Builtin.max_ ts ty (args.map a.eval)) ?_, rep_ofVal e⟩
        have e1 : args.map a.eval = vs.toArray := Array.ext' (by rw [Array.toList_map, h.valsO_ hvs])
        rw [e1]
        exact pureRun_ok P hp w
      | _ => cases e
    | _ => cases e
  | makeFunc fn first cap =>
    obtain ⟨f, hf, e⟩ := Option.bind_eq_some_iff.1 e
    obtain ⟨c, hc, rfl⟩ := Option.map_eq_some_iff.1 e
    have r1 := h.pvs_ hf
    have r2 := h.pvs_ hc
    refine ⟨.func fn (first.map a.eval) (cap.map a.eval), rfl, .one (.clo ?_ ?_ (fun i p u a b => ?_) (fun i p u a b => ?_))⟩
    · have := r1.1; simpa using this
    · have := r2.1; simpa using this
    · exact r1.2 i p u a (by rw [← Array.getElem?_toList, Array.toList_map] at b; exact b)
    · exact r2.2 i p u a (by rw [← Array.getElem?_toList, Array.toList_map] at b; exact b)
  | _ => cases e
end
end Go.Proofs.YtbljhngekhgbbaaGreat
