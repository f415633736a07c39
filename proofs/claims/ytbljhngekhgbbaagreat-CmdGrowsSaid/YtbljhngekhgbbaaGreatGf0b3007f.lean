/- Texts of the proofs of CmdEnds, CmdFirst, CmdGrows, CmdPlays, merged (AmKw, AmL, AmLz, AmLl, AmM, AmN, AmO, AmQ, AmR, AmS, AmZ, AmT). -/
import Derived.Lib.AppendStr
import Derived.Laws.IdiomStrings
import Derived.Lib.SliceRun
import Derived.Test.YtbljhngekhgbbaaGreatGb3b707fa
import Derived.Test.YtbljhngekhgbbaaGreatGb43ee308
import Derived.Test.YtbljhngekhgbbaaGreatG9c20b58a
import Derived.Test.YtbljhngekhgbbaaGreatG6e0496cb
import Derived.Test.YtbljhngekhgbbaaGreatG20caf6cc
set_option linter.unusedSimpArgs false
set_option linter.unusedVariables false
namespace Go.Proofs.YtbljhngekhgbbaaGreat
open Go.RowKit
set_option linter.unusedVariables false
set_option linter.unusedSectionVars false
set_option linter.unusedSimpArgs false
def byteRows (s : ByteArray) : List (List PV) := s.data.toList.map fun b => [.lit (.int .u8 (b.toNat : Int))]
/-- a text appended to bytes -/
def sopS (P : Program) (st : SSt) (o : Oper) : Option (TV × Store × Nat) := match o.op with
  | .call { callee := .builtin .append, args := args, argTypes := ts } => match args.toList, ts.toList with
    | [s, x], [t, u] => (elemD P t).bind fun e => (P.info? e).bind fun i => match P.underlying u, st.eval x, st.eval s with
      | some .string, some (.one (.lit (.string b))), some (.one (.osl id 0 n)) => match i.zero, st.boxes.lookup id with
        | some (.int .u8 0), some (.own e' k rows) => if i.size = 1 ∧ i.bytes = 1 ∧ e' = e ∧ k = 1 ∧ n ≤ rows.length ∧ rows ≠ [] ∧ Nat.ble (n + b.size) 140737488355328 = true ∧ Nat.ble (n + b.size) maxLen = true then
            some (.one (.osl st.next 0 (n + b.size)), (st.next, .own e 1 (rows.take n ++ byteRows b)) :: Store.rm st.boxes id, st.next + 1) else none
        | _, _ => none
      | _, _, _ => none
    | _, _ => none
  | _ => none
def bytesOf : List (List PV) → Option (List UInt8)
  | [] => some []
  | [.lit (.int .u8 z)] :: rs => if 0 ≤ z ∧ z < 256 then (bytesOf rs).map (UInt8.ofNat z.toNat :: ·) else none
  | _ => none
/-- bytes as a text -/
def sopB (P : Program) (st : SSt) (o : Oper) : Option TV := match o.op with
  | .convert s d x => match P.underlying s, P.underlying d with
    | some (.slice e), some .string => match P.underlying e with
      | some (.int .u8) => (st.rows? x).bind fun rows => (bytesOf rows).map fun bs => .one (.lit (.string ⟨bs.toArray⟩))
      | _ => none
    | _, _ => none
  | _ => none
/-- a call of a function without a text, that is a value at once -/
def sopI (P : Program) (st : SSt) (o : Oper) : Option TV := match o.op with
  | .call { callee := .value f, args := args, argTypes := _ } => match st.eval f with
    | some (.one (.lit (.func (.func g) first cap))) => if first.size = 0 ∧ cap.size = 0 then (match P.funcs[g]? with
      | some fn => if fn.body.isNone = true then (st.valsO args.toList).bind fun vs => (match pureRun P (callFunc g vs.toArray) with
        | some (.value v) => ofVal v
        | _ => none) else none
      | none => none) else none
    | _ => none
  | _ => none
def sopW (P : Program) (st : SSt) (o : Oper) : Option TV := match sopW1 P st o with
  | some t => some t
  | none => match sopB P st o with
    | some t => some t
    | none => sopI P st o
section
variable {ds : List Deferred} {P : Program} {N n : Nat} {W w w' : World} {H : Addr → Prop} {β : Ids} {X : Nat → Prop} {st : SSt} {a : Act} {G : Addr → Prop} {σ : Store}
open Go.Lib in
theorem run_append_str2 (base : Nat) (t u ty e : TypeId) (i : TypeInfo) (ht : P.underlying t = some (.slice e)) (hu : P.underlying u = some .string) (hi : P.info? e = some i) (hz : i.zero = some (.int .u8 0))
    (hsize : i.size = 1) (hby : i.bytes = 1) (v : Value) (n : Nat) (xs : List Value) (hown : w.ownsRow base e 1 v n xs) (s : ByteArray)
    (h63 : n + s.size ≤ maxLen) (hbytes : n + s.size ≤ 140737488355328) (hbase : base ≤ w.heap.size) :
    ∃ v' w', (Builtin.append_ #[t, u] ty #[v, .string s]).run P w = .ok v' w' ∧ w'.ownsRow base e 1 v' (n + s.size) (xs ++ strCells s) ∧ w.grownBy w' v.ownBlock ∧ (v'.ownBlock = v.ownBlock ∨ v'.ownBlock = some w.heap.size) ∧ (v' = .slice none 0 0 ↔ v = .slice none 0 0 ∧ s.size = 0) := by
  obtain ⟨v', w', hr, h2, h3, h4⟩ := run_append_own_string (P := P) w base t u ty e i ht hu hi hz hsize hby v n xs hown s h63 hbytes hbase
  refine ⟨v', w', hr, h2, h3, ?_, h4⟩
  have hsmall : n + s.size ≤ 9223372036854775807 := by simp only [maxLen] at h63; omega
  have hxl : xs.length = n := by simpa using hown.1
  rcases hown.2 with ⟨rfl, rfl⟩ | ⟨g, cap, cur, rfl, hbg, hg, hnc, hcm, hcs, htake⟩
  · by_cases hm : s.size = 0
    · rw [h4.2 ⟨rfl, hm⟩]
      exact .inl rfl
    · have hr2 := run_append_nil_string (P := P) w t u ty e i (.int .u8 0) ht hu hi hz s (by omega) (by omega) (by rw [hby]; omega)
      rw [hr] at hr2
      injection hr2 with e1 e2
      subst e1
      exact .inr rfl
  · by_cases hroom : n + s.size ≤ cap
    · have hr2 := run_append_room_string (P := P) w t u ty e i ht hu hi hsize g n cap cur hg s hroom (by omega)
      rw [hr] at hr2
      injection hr2 with e1 e2
      subst e1
      exact .inl rfl
    · have holds : ∀ j u, xs[j]? = some u → w.cell? ((⟨g, 0, none⟩ : Addr).add j) = some u := hown.cells (g := g) rfl
      have hr2 := run_append_grow_string (P := P) w t u ty e i (.int .u8 0) ht hu hi hz ⟨g, 0, none⟩ n cap xs (by rw [hsize]; simpa using hxl) holds s (by omega) (by omega) (by rw [hby]; exact growslice_fits (by omega) (by omega))
      rw [hr] at hr2
      injection hr2 with e1 e2
      subst e1
      exact .inr rfl
theorem byteRows_rep (s : ByteArray) : RepL w G β (byteRows s).flatten (Lib.strCells s) := by
  unfold byteRows Lib.strCells
  generalize s.data.toList = l
  induction l with
  | nil => exact RepL.nil_
  | cons x l ih => exact RepL.cons_.2 ⟨.lit rfl, ih⟩
theorem byteRows_all (s : ByteArray) : ∀ r ∈ byteRows s, r.length = 1 := by
  intro r hr
  unfold byteRows at hr
  obtain ⟨b, _, rfl⟩ := List.mem_map.1 hr
  rfl
theorem byteRows_len (s : ByteArray) : (byteRows s).length = s.size := by unfold byteRows; rw [List.length_map, Array.length_toList]; rfl
theorem sopS_run {o : Oper} {tv : TV} {σ' : Store} {n' : Nat} (h : Inv ds N W X H β st a w) (e : sopS P st o = some (tv, σ', n')) : Did P H w β st o a tv σ' n' := by
  obtain ⟨dst, op, ty, pos, after, guard⟩ := o
  unfold sopS at e
  dsimp only at e
  split at e
  rotate_left
  · cases e
  rename_i args ts
  split at e
  rotate_left
  · cases e
  rename_i s x t u h1 h2
  have ea : args = #[s, x] := Array.ext' h1
  have et : ts = #[t, u] := Array.ext' h2
  subst ea
  subst et
  obtain ⟨el, hel, e⟩ := Option.bind_eq_some_iff.1 e
  obtain ⟨i, hi, e⟩ := Option.bind_eq_some_iff.1 e
  split at e
  rotate_left
  · cases e
  rename_i b id n hu hx hs
  split at e
  rotate_left
  · cases e
  rename_i e' k rows hz hb
  split at e
  rotate_left
  · cases e
  rename_i hc
  simp only [Option.some.injEq, Prod.mk.injEq] at e
  obtain ⟨rfl, rfl, rfl⟩ := e
  obtain ⟨hsz, hby, rfl, rfl, hn, hne, hb1, hb2⟩ := hc
  have hb1 := Nat.le_of_ble_eq_true hb1
  have hb2 := Nat.le_of_ble_eq_true hb2
  have hxv := (h.eval hx).val (u := .string b) rfl
  have ht := elemD_ hel
  obtain ⟨O, hO, hcase⟩ := (h.eval hs).osl_
  have hz' : O.z = false ∧ a.eval s = .slice (some ⟨O.b, 0, none⟩) n O.c ∧ n ≤ O.c := by
    rcases hcase with ⟨hz', hnc, hv⟩ | ⟨hz', _, _, _⟩
    · rw [Own.at0, Nat.sub_zero] at hv
      exact ⟨hz', hv, by omega⟩
    · obtain ⟨O', g1, g2⟩ := h.mem.row id _ hb
      rw [hO] at g1
      obtain rfl := Option.some.inj g1
      rcases g2 with g2 | g2
      · exact absurd g2.2 hne
      · rw [g2.1] at hz'; cases hz'
  obtain ⟨hz', hv, hnc⟩ := hz'
  obtain ⟨hkk, cur, us, g1, g2, g3, g4, g5, g6, g7⟩ := h.mem.own_ hb hO hz'
  have hcr := cut_rows (l := 0) (h := n) g5 g7 (Nat.zero_le _) hn
  rw [hkk] at hcr g2 g6
  simp only [List.drop_zero, Nat.zero_mul, Nat.sub_zero, Nat.mul_one] at hcr g2 g6
  have r1 : ∀ r ∈ rows.take n, r.length = 1 := fun r hr => by rw [g5 r (List.mem_of_mem_take hr), hkk]
  have hown : w.ownsRow 0 e' 1 (.slice (some ⟨O.b, 0, none⟩) n O.c) n (us.take n) := by
    refine ⟨?_, .inr ⟨O.b, O.c, cur, rfl, Nat.zero_le _, g1, hnc, g3, by rw [g2, Nat.mul_one], ?_⟩⟩
    · rw [hcr.1.1, flat_len r1, List.length_take, Nat.mul_one, Nat.mul_one]; omega
    · rw [Nat.mul_one, ← g6, List.take_take, Nat.min_eq_left hn]
  obtain ⟨v', w2, hrun, hown2, hg, hblk, hnil⟩ := run_append_str2 (P := P) (w := w) 0 t u ty e' i ht hu hi hz hsz hby _ n _ hown b hb2 hb1 (Nat.zero_le _)
  obtain ⟨hlen2, hcase2⟩ := hown2
  rcases hcase2 with ⟨hbad, _⟩ | ⟨g, cap, cur2, rfl, _, k1, k2, k3, k4, k5⟩
  · have := (hnil.1 hbad).1
    cases this
  have hlr : (rows.take n ++ byteRows b).length = n + b.size := by rw [List.length_append, List.length_take, byteRows_len]; omega
  have hst : ∀ (G' : Addr → Prop) (β' : Ids), (∀ q u, w.cell? q = some u → gOf H β st.boxes q → w2.cell? q = some u ∧ G' q) → (Row.own e' 1 (rows.take n ++ byteRows b)).Stands w2 G' β' ⟨g, cap, 1, false⟩ := by
    intro G' β' hk
    refine .inr ⟨rfl, rfl, cur2, us.take n ++ Lib.strCells b, k1, k4, k3, by rw [hlr]; exact k2, ?_, ?_, ?_⟩
    · intro r hr
      rcases List.mem_append.1 hr with h | h
      · exact r1 r h
      · exact byteRows_all b r h
    · rw [hlr]; exact k5
    · rw [List.flatten_append]
      exact (hcr.1.append (byteRows_rep b)).mono hk
  have hwhere : g = O.b ∨ g = w.heap.size := by
    rcases hblk with hh | hh
    · left; simpa [Value.ownBlock] using hh
    · right; simpa [Value.ownBlock] using hh
  obtain ⟨β', hm', hβ⟩ := app_turn (w' := w2) h.mem (d := some id) (e := e') (k := 1) (rs := rows.take n ++ byteRows b) (O0 := ⟨g, cap, 1, false⟩) (by
      rcases hwhere with rfl | rfl
      · exact .inr (.inr ⟨id, _, O, rfl, hb, hO, hz', rfl⟩)
      · exact .inr (.inl (Nat.le_refl _))) hg.os hg.tape hg.output hg.size
    (fun b' hb' hne' => hg.block b' hb' (fun e => hne' id _ O rfl hb hO hz' (by simpa [Value.ownBlock] using e.symm))) hst
  have hrep := RepP.osl (w := w2) (G := gOf H β' ((st.next, .own e' 1 (rows.take n ++ byteRows b)) :: rmO st.boxes (some id))) (o := 0) (n := n + b.size) hβ rfl (by simpa using k2)
  have e0 : Own.at ⟨g, cap, 1, false⟩ (0 * 1) = ⟨g, 0, none⟩ := rfl
  rw [e0] at hrep
  refine Did.value (v := .slice (some ⟨g, 0, none⟩) (n + b.size) cap) ?_ hm' (.one hrep)
  unfold execOp
  refine ok_w (s := Builtin.append_ #[t, u] ty (#[s, x].map a.eval)) ?_
  have e1 : (#[s, x] : Array Operand).map a.eval = #[.slice (some ⟨O.b, 0, none⟩) n O.c, .string b] := by simp [hv, hxv]
  rw [e1]
  exact hrun
theorem bytesOf_rep : ∀ {rows : List (List PV)} {bs : List UInt8}, bytesOf rows = some bs → rows.length = bs.length ∧ ∀ {us : List Value}, RepL w G β rows.flatten us → us = bs.map fun b => Value.int .u8 (b.toNat : Int)
  | [], bs, e => by
    simp [bytesOf] at e
    subst e
    refine ⟨rfl, fun {us} h => ?_⟩
    have := h.1
    exact List.eq_nil_of_length_eq_zero (by simpa using this)
  | r :: rs, bs, e => by
    unfold bytesOf at e
    split at e
    · rename_i h; cases h
    · rename_i z rs' heq
      simp only [List.cons.injEq] at heq
      obtain ⟨rfl, rfl⟩ := heq
      split at e
      · rename_i hz
        obtain ⟨bs', hb, rfl⟩ := Option.map_eq_some_iff.1 e
        obtain ⟨i1, i2⟩ := bytesOf_rep hb
        refine ⟨by simp [i1], fun {us} h => ?_⟩
        rw [List.flatten_cons] at h
        cases us with
        | nil => have := h.1; simp at this
        | cons u us =>
          obtain ⟨h1, h2⟩ := RepL.cons_.1 h
          have hu := h1.val (u := .int .u8 z) rfl
          rw [hu, i2 h2, List.map_cons]
          congr 2
          have : (UInt8.ofNat z.toNat).toNat = z.toNat := by
            rw [UInt8.toNat_ofNat']
            exact Nat.mod_eq_of_lt (by omega)
          rw [this]
          omega
      · cases e
    · cases e
theorem sopB_run {o : Oper} {tv : TV} (h : Inv ds N W X H β st a w) (e : sopB P st o = some tv) : ∃ v, (execOp a.eval o).run P w = .ok (.value v) w ∧ RepT w (st.G H β) β tv v := by
  obtain ⟨dst, op, ty, pos, after, guard⟩ := o
  unfold sopB at e
  dsimp only at e
  split at e
  rotate_left
  · cases e
  rename_i s d x
  split at e
  rotate_left
  · cases e
  rename_i el hs hd
  split at e
  rotate_left
  · cases e
  rename_i hel
  obtain ⟨rows, hr, e⟩ := Option.bind_eq_some_iff.1 e
  obtain ⟨bs, hbs, rfl⟩ := Option.map_eq_some_iff.1 e
  obtain ⟨B, c, hv, hle, hsrc⟩ := h.src_ hr
  have hl := (bytesOf_rep (w := w) (G := st.G H β) (β := noIds) hbs).1
  refine ⟨.string ⟨bs.toArray⟩, ?_, .one (.lit rfl)⟩
  unfold execOp
  dsimp only
  rw [hv]
  refine ok_v ?_
  by_cases h0 : rows = []
  · subst h0
    have : bs = [] := List.eq_nil_of_length_eq_zero (by rw [← hl]; rfl)
    subst this
    rw [run_convert_bytes_string w _ _ el B _ c hs hel hd]
    cases B with
    | none => simp [Conv.bytesToString]; rfl
    | some ad => simp [Conv.bytesToString, loadCells]; rfl
  · obtain ⟨ad, us, k, rfl, _, h2, h3⟩ := hsrc h0
    have hus := (bytesOf_rep hbs).2 h2
    subst hus
    rw [hl]
    refine run_convert_bytes_back w _ _ el ad c bs hs hel hd fun k hk => ?_
    exact h3 k _ (by rw [List.getElem?_map, List.getElem?_eq_getElem hk]; rfl)
theorem sopI_run {o : Oper} {tv : TV} (h : Inv ds N W X H β st a w) (e : sopI P st o = some tv) : ∃ v, (execOp a.eval o).run P w = .ok (.value v) w ∧ RepT w (st.G H β) β tv v := by
  obtain ⟨dst, op, ty, pos, after, guard⟩ := o
  unfold sopI at e
  dsimp only at e
  split at e
  rotate_left
  · cases e
  rename_i f args ats
  split at e
  rotate_left
  · cases e
  rename_i g first cap hf
  split at e
  rotate_left
  · cases e
  rename_i hc
  split at e
  rotate_left
  · cases e
  rename_i fn hfn
  split at e
  rotate_left
  · cases e
  obtain ⟨vs, hvs, e⟩ := Option.bind_eq_some_iff.1 e
  split at e
  rotate_left
  · cases e
  rename_i v hp
  have hfv := (h.eval hf).val (u := .func (.func g) first cap) rfl
  have h1 : first = #[] := Array.eq_empty_of_size_eq_zero hc.1
  have h2 : cap = #[] := Array.eq_empty_of_size_eq_zero hc.2
  subst h1
  subst h2
  refine ⟨v, ?_, rep_ofVal e⟩
  unfold execOp resolve
  simp only [hfv, Deferred.ofValue]
  show (callFunc g (#[] ++ args.map a.eval ++ #[])).run P w = _
  have : #[] ++ args.map a.eval ++ #[] = vs.toArray := by
    apply Array.ext'
    simp [h.valsO_ hvs]
  rw [this]
  exact pureRun_ok P hp w
theorem sopW_run {o : Oper} {tv : TV} (h : Inv ds N W X H β st a w) (e : sopW P st o = some tv) : ∃ v, (execOp a.eval o).run P w = .ok (.value v) w ∧ RepT w (st.G H β) β tv v := by
  unfold sopW at e
  split at e
  · rename_i t ht
    obtain rfl := Option.some.inj e
    exact sopW1_run h ht
  · split at e
    · rename_i t ht
      obtain rfl := Option.some.inj e
      exact sopB_run h ht
    · exact sopI_run h e
theorem sopW_D {o : Oper} {b : Bool} {tv : TV} (h : sopD P st o = some (b, tv)) (hb : b = true) : sopW P st o = some tv := by unfold sopW; rw [sopW1_D h hb]
theorem sopW_V {o : Oper} {tv : TV} (hd : sopD P st o = none) (h : sopV P st o = some tv) : sopW P st o = some tv := by unfold sopW; rw [sopW1_V hd h]
end
end Go.Proofs.YtbljhngekhgbbaaGreat
namespace Go.Proofs.YtbljhngekhgbbaaGreat
open Go.RowKit
set_option linter.unusedVariables false
set_option linter.unusedSectionVars false
/-- values and what they stand for, one by one -/
def RepTs (w : World) (G : Addr → Prop) (β : Ids) (ts : List TV) (vs : List Value) : Prop := vs.length = ts.length ∧ ∀ (i : Nat) (t : TV) (v : Value), ts[i]? = some t → vs[i]? = some v → RepT w G β t v
/-- called with values that stand for ts, where the store stands, f hands back what stands for r, and the store is σ' -/
def CallsG (P : Program) (f : FuncId) (σ : Store) (n : Nat) (ts : List TV) (r : TV) (σ' : Store) (n' : Nat) : Prop := ∀ (w : World) (H : Addr → Prop) (β : Ids) (args : List Value), MemI w H β σ n → RepTs w (gOf H β σ) β ts args →
  Calls P f args.toArray w fun e w' => ∃ v β', e = .returned v ∧ MStep H w β σ n w' β' σ' n' ∧ RepT w' (gOf H β' σ') β' r v
/-- called with ts, f hands back r, whatever the store, and leaves it as it is -/
def CallsTo (P : Program) (f : FuncId) (ts : List TV) (r : TV) : Prop := ∀ (σ : Store) (n : Nat), CallsG P f σ n ts r σ n
section
variable {P : Program} {w w' : World} {G : Addr → Prop} {H : Addr → Prop} {β : Ids} {σ : Store} {n : Nat}
theorem ExtB.weaken {X Y : Nat → Prop} (h : ExtB X w w') (hy : ∀ b, X b → Y b) : ExtB Y w w' := ⟨h.os, h.tape, h.output, h.size, fun b hb hn => h.block b hb fun hx => hn (hy b hx)⟩
theorem MemI.key (h : MemI w H β σ n) {i : Nat} {row : Row} (hi : σ.lookup i = some row) : i < n := by
  refine Nat.lt_of_not_le fun hle => ?_
  rw [h.fresh hle] at hi
  cases hi
theorem CallsG.frame {f : FuncId} {σ0 σ1 σ2 : Store} {n0 n1 : Nat} {ts0 : List TV} {r0 : TV} (hf : CallsG P f σ0 n0 ts0 r0 σ1 n1) (m : Nat → Nat) (hm : ∀ i, i < n0 → m i < n) (far : ∀ i, n0 ≤ i → m i = n + (i - n0)) (key : ∀ i row, σ0.lookup i = some row → i < n0)
    (inj : ∀ i j ri rj, σ0.lookup i = some ri → σ0.lookup j = some rj → m i = m j → i = j) (row : ∀ i row, σ0.lookup i = some row → σ.lookup (m i) = some (row.ren m))
    (hlk : ∀ i row, σ2.lookup i = some row → (∃ j row1, σ1.lookup j = some row1 ∧ i = m j ∧ row = row1.ren m) ∨ (σ.lookup i = some row ∧ ∀ j row0, σ0.lookup j = some row0 → m j ≠ i)) :
    CallsG P f σ n (TV.rens m ts0) (r0.ren m) σ2 (n + (n1 - n0)) := by
  intro w H β args hM hargs
  let fr : Nat → Prop := fun b => ∃ id row O, σ.lookup id = some row ∧ (∀ j row0, σ0.lookup j = some row0 → m j ≠ id) ∧ β id = some O ∧ O.z = false ∧ O.b = b
  let H0 : Addr → Prop := fun p => H p ∧ ¬ fr p.block
  let β0 : Ids := fun i => β (m i)
  have fro : ∀ b, fr b → owned β σ b := fun b ⟨id, row, O, h1, _, h2, h3, h4⟩ => ⟨id, row, O, h1, h2, h3, h4⟩
  have o0 : ∀ b, owned β0 σ0 b → owned β σ b := fun b ⟨i, r, O, h1, h2, h3, h4⟩ => ⟨m i, r.ren m, O, row i r h1, h2, h3, h4⟩
  have split : ∀ b, owned β σ b → fr b ∨ owned β0 σ0 b := by
    rintro b ⟨id, r, O, h1, h2, h3, h4⟩
    by_cases hh : ∃ j row0, σ0.lookup j = some row0 ∧ m j = id
    · obtain ⟨j, row0, hj, rfl⟩ := hh
      exact .inr ⟨j, row0, O, hj, h2, h3, h4⟩
    · exact .inl ⟨id, r, O, h1, fun j row0 hj e => hh ⟨j, row0, hj, e⟩, h2, h3, h4⟩
  have apart : ∀ b, fr b → ¬ owned β0 σ0 b := by
    rintro b ⟨id, r, O, h1, hne, h2, h3, h4⟩ ⟨i, ri, Oi, k1, k2, k3, k4⟩
    exact hne i ri k1 (hM.inj (m i) id _ _ Oi O (row i ri k1) h1 k2 h2 k3 h3 (by rw [k4, h4]))
  have hG0 : ∀ p, gOf H β σ p → gOf H0 β0 σ0 p := fun p hp => ⟨⟨hp.1, fun h => hp.2 (fro _ h)⟩, fun h => hp.2 (o0 _ h)⟩
  have hGb : ∀ p, gOf H0 β0 σ0 p → gOf H β σ p := fun p hp => ⟨hp.1.1, fun h => by
    rcases split _ h with h | h
    · exact hp.1.2 h
    · exact hp.2 h⟩
  have hM0 : MemI w H0 β0 σ0 n0 := by
    refine ⟨fun i hi => ?_, fun i r hr => ?_, fun i j ri rj Oi Oj hi hj bi bj zi zj e => ?_, fun p hp => ⟨hM.new p hp, fun h => by have := hM.lt (fro _ h); omega⟩, fun p hp => ⟨hM.inH p (o0 _ hp), fun h => apart _ h hp⟩⟩
    · show β (m i) = none
      rw [far i hi]
      exact hM.dom _ (by omega)
    · obtain ⟨O, h1, h2⟩ := hM.row _ _ (row i r hr)
      exact ⟨O, h1, (h2.unren).mono fun q u hq hg => ⟨hq, hG0 q hg⟩⟩
    · exact inj i j ri rj hi hj (hM.inj _ _ _ _ Oi Oj (row i ri hi) (row j rj hj) bi bj zi zj e)
  have hargs0 : RepTs w (gOf H0 β0 σ0) β0 ts0 args := by
    refine ⟨by have := hargs.1; rw [TV.rens_eq, List.length_map] at this; exact this, fun i t v ht hv => ?_⟩
    have := hargs.2 i (t.ren m) v (by rw [TV.rens_eq, List.getElem?_map, ht]; rfl) hv
    exact (RepT.unren t this).mono fun q u hq hg => ⟨hq, hG0 q hg⟩
  refine (hf w H0 β0 args hM0 hargs0).mono ?_
  rintro e w' ⟨v, β0', rfl, hs, hr⟩
  let β' : Ids := fun id => if id < n then β id else β0' (n0 + (id - n))
  have hβ : ∀ i, β' (m i) = β0' i := by
    intro i
    show (if m i < n then β (m i) else β0' (n0 + (m i - n))) = β0' i
    by_cases hi : i < n0
    · rw [if_pos (hm i hi), hs.same i hi]
    · rw [far i (by omega), if_neg (by omega)]
      congr 1
      omega
  have hold : ∀ i, i < n → β' i = β i := fun i hi => if_pos hi
  have hmore : ∀ i o, β i = some o → β' i = some o := by
    intro i o hi
    rw [hold i]
    · exact hi
    · refine Nat.lt_of_not_le fun hle => ?_
      rw [hM.dom i hle] at hi
      cases hi
  have hnx := hs.next
  have two : ∀ b, owned β' σ2 b → owned β0' σ1 b ∨ fr b := by
    rintro b ⟨id, r, O, h1, h2, h3, h4⟩
    rcases hlk id r h1 with ⟨j, row1, k1, rfl, rfl⟩ | ⟨k1, k2⟩
    · rw [hβ] at h2
      exact .inl ⟨j, row1, O, k1, h2, h3, h4⟩
    · rw [hold id (hM.key k1)] at h2
      exact .inr ⟨id, r, O, k1, k2, h2, h3, h4⟩
  have ownb : ∀ b, owned β' σ2 b → w.heap.size ≤ b ∨ owned β σ b := by
    intro b hb
    rcases two b hb with h | h
    · rcases hs.own b h with h | h
      · exact .inl h
      · exact .inr (o0 b h)
    · exact .inr (fro b h)
  have hG1 : ∀ p, gOf H0 β0' σ1 p → gOf H β' σ2 p := fun p hp => ⟨hp.1.1, fun h => by
    rcases two _ h with h | h
    · exact hp.2 h
    · exact hp.1.2 h⟩
  have hkeep : ∀ q u, w.cell? q = some u → gOf H β σ q → w'.cell? q = some u ∧ gOf H β' σ2 q := fun q u hq hg => by
    obtain ⟨h1, h2⟩ := hs.keep q u hq (hG0 q hg)
    exact ⟨h1, hG1 q h2⟩
  refine ⟨v, β', rfl, ⟨hmore, hold, hs.ext.weaken o0, ⟨fun i hi => ?_, fun i r hir => ?_, fun i j ri rj Oi Oj hi hj bi bj zi zj e => ?_, fun p hp => hM.new p (Nat.le_trans hs.ext.size hp), fun p hp => (ownb _ hp).elim (hM.new p) (hM.inH p)⟩, ownb, by omega⟩, (hr.ren fun i o h => by rw [hβ]; exact h).mono fun q u hq hg => ⟨hq, hG1 q hg⟩⟩
  · show (if i < n then β i else β0' (n0 + (i - n))) = none
    rw [if_neg (by omega)]
    exact hs.mem.dom _ (by omega)
  · rcases hlk i r hir with ⟨j, row1, k1, rfl, rfl⟩ | ⟨k1, k2⟩
    · obtain ⟨O, h1, h2⟩ := hs.mem.row j row1 k1
      exact ⟨O, by rw [hβ]; exact h1, (h2.ren fun i o h => by rw [hβ]; exact h).mono fun q u hq hg => ⟨hq, hG1 q hg⟩⟩
    · obtain ⟨O, h1, h2⟩ := hM.row i r k1
      exact ⟨O, hmore _ _ h1, (h2.turn (fun hz => hs.ext.block O.b (h2.lt hz) (apart _ ⟨i, r, O, k1, k2, h1, hz, rfl⟩)) hkeep).more hmore⟩
  · have cross : ∀ b, owned β0' σ1 b → fr b → False := by
      intro b h1 h2
      rcases hs.own b h1 with h | h
      · have := hM.lt (fro _ h2); omega
      · exact apart b h2 h
    rcases hlk i ri hi with ⟨i1, r1, k1, rfl, rfl⟩ | ⟨k1, k2⟩ <;> rcases hlk j rj hj with ⟨j1, r2, l1, rfl, rfl⟩ | ⟨l1, l2⟩
    · rw [hβ] at bi bj
      rw [hs.mem.inj i1 j1 r1 r2 Oi Oj k1 l1 bi bj zi zj e]
    · rw [hβ] at bi
      rw [hold j (hM.key l1)] at bj
      exact (cross Oi.b ⟨i1, r1, Oi, k1, bi, zi, rfl⟩ ⟨j, rj, Oj, l1, l2, bj, zj, e.symm⟩).elim
    · rw [hβ] at bj
      rw [hold i (hM.key k1)] at bi
      exact (cross Oj.b ⟨j1, r2, Oj, l1, bj, zj, rfl⟩ ⟨i, ri, Oi, k1, k2, bi, zi, e⟩).elim
    · rw [hold i (hM.key k1)] at bi
      rw [hold j (hM.key l1)] at bj
      exact hM.inj i j ri rj Oi Oj k1 l1 bi bj zi zj e
end
end Go.Proofs.YtbljhngekhgbbaaGreat
namespace Go.Proofs.YtbljhngekhgbbaaGreat
open Go.RowKit
set_option linter.unusedVariables false
set_option linter.unusedSectionVars false
set_option linter.unusedSimpArgs false
/-- slices of the row as slices that are only read -/
def fzP (id : Nat) (rows : List (List PV)) : PV → PV
  | .osl i o n => if i = id ∧ o + n ≤ rows.length then .sl false ((rows.drop o).take n) else .osl i o n
  | p => p
def fzT (id : Nat) (rows : List (List PV)) : TV → TV
  | .one p => .one (fzP id rows p)
  | .agg ps => .agg (ps.map (fzP id rows))
  | t => t
def fzR (id : Nat) (rows : List (List PV)) : Row → Row
  | .var cs => .var (cs.map (fzP id rows))
  | r => r
def SSt.freeze (st : SSt) (id : Nat) (rows : List (List PV)) : SSt := ⟨st.env.map fun e => (e.1, fzT id rows e.2), (Store.rm st.boxes id).map fun e => (e.1, fzR id rows e.2), st.next⟩
section
variable {ds : List Deferred} {P : Program} {N n n' : Nat} {st : SSt} {w w' : World} {a : Act} {β : Ids} {W : World} {X : Nat → Prop} {H : Addr → Prop} {σ σ' : Store}
theorem lookup_map {α γ : Type} (f : α → γ) (i : Nat) : ∀ l : List (Nat × α), (l.map fun e => (e.1, f e.2)).lookup i = (l.lookup i).map f
  | [] => rfl
  | (j, x) :: l => by
    rw [List.map_cons, List.lookup_cons, List.lookup_cons, lookup_map f i l]
    by_cases h : i = j
    · subst h; simp
    · have : (i == j) = false := by simpa using h
      simp [this]
theorem rep_fz (h : MemI w H β σ n) {id k : Nat} {e : TypeId} {rows : List (List PV)} (hl : σ.lookup id = some (.own e k rows)) (hno : ∀ i row, σ'.lookup i = some row → i ≠ id ∧ ∃ row0, σ.lookup i = some row0) {p : PV} {v : Value} (hp : RepP w (gOf H β σ') β p v) : RepP w (gOf H β σ') β (fzP id rows p) v := by
  unfold fzP
  split
  · rename_i i o m
    split
    · rename_i hc
      obtain ⟨rfl, hle⟩ := hc
      obtain ⟨O, hO, hst⟩ := h.row _ _ hl
      have hlen : ((rows.drop o).take m).length = m := by rw [List.length_take, List.length_drop]; omega
      have hstay : O.z = false → ∀ q : Nat, gOf H β σ' (O.at q) := by
        intro hz q
        have hb : (O.at q).block = O.b := by unfold Own.at; rw [block_of_add]
        refine ⟨h.inH _ ⟨i, _, O, hl, hO, hz, hb.symm⟩, ?_⟩
        rintro ⟨j, rj, Oj, h1, h2, h3, h4⟩
        obtain ⟨hne, row0, h5⟩ := hno j rj h1
        exact hne (h.inj j i row0 _ Oj O h5 hl h2 hO h3 hz (by rw [h4, hb]))
      cases hp with
      | osl hO' hz hn =>
        rw [hO] at hO'
        obtain rfl := Option.some.inj hO'
        obtain ⟨hkk, cur, us, h1, h2, h3, h4, h5, h6, h7⟩ := h.own_ hl hO hz
        have hcr := cut_rows (l := o) (h := o + m) h5 h7 (by omega) hle
        have e1 : (rows.take (o + m)).drop o = (rows.drop o).take m := by rw [List.drop_take]; congr 1; omega
        rw [e1] at hcr
        have hall : ∀ r ∈ (rows.drop o).take m, r.length = O.k := fun r hr => h5 r (List.mem_of_mem_drop (List.mem_of_mem_take hr))
        have hcell : ∀ (i : Nat) (u : Value), ((us.drop (o * O.k)).take ((o + m - o) * O.k))[i]? = some u → w.cell? ((O.at (o * O.k)).add i) = some u ∧ gOf H β σ' ((O.at (o * O.k)).add i) := by
          intro i u hu
          rw [Own.at_add]
          refine ⟨?_, hstay hz _⟩
          unfold Own.at
          rw [cell_at' h1]
          have := hcr.2 i u hu
          rw [← h6, List.getElem?_take] at this
          split at this
          · exact this
          · cases this
        have hrep := hcr.1.mono (G' := gOf H β σ') (w' := w) fun q u hq hg => ⟨hq, hg.1, fun ho => hg.2 (by
            obtain ⟨j, rj, Oj, h1, h2⟩ := ho
            obtain ⟨_, row0, h5⟩ := hno j rj h1
            exact ⟨j, row0, Oj, h5, h2⟩)⟩
        have := RepP.sl (w := w) (G := gOf H β σ') (β := β) (x := false) (c := O.c - o) (k := O.k) (rows := (rows.drop o).take m) (us := (us.drop (o * O.k)).take ((o + m - o) * O.k)) (a := O.at (o * O.k)) (by rw [hlen]; omega) (fun h => by cases h) hall hrep.1 hcell hrep.2
        rw [hlen] at this
        exact this
      | osl0 hO' hz =>
        rw [List.take_zero]
        exact .sl0 (fun _ => rfl) (fun _ => rfl)
    · exact hp
  · exact hp
theorem Inv.freeze (h : Inv ds N W X H β st a w) {id k : Nat} {e : TypeId} {rows : List (List PV)} (hl : st.boxes.lookup id = some (.own e k rows)) : Inv ds N W X H β (st.freeze id rows) a w := by
  have hlk : ∀ i row, ((Store.rm st.boxes id).map fun e => (e.1, fzR id rows e.2) : Store).lookup i = some row → i ≠ id ∧ ∃ row0, st.boxes.lookup i = some row0 ∧ row = fzR id rows row0 := by
    intro i row hi
    rw [lookup_map, lookup_rm] at hi
    split at hi
    · cases hi
    · rename_i hne
      obtain ⟨row0, h1, rfl⟩ := Option.map_eq_some_iff.1 hi
      exact ⟨hne, row0, h1, rfl⟩
  have hno : ∀ i row, (st.freeze id rows).boxes.lookup i = some row → i ≠ id ∧ ∃ row0, st.boxes.lookup i = some row0 := fun i row hi => ⟨(hlk i row hi).1, _, (hlk i row hi).2.choose_spec.1⟩
  have hown : ∀ b, owned β (st.freeze id rows).boxes b → owned β st.boxes b := by
    rintro b ⟨i, row, O, h1, h2⟩
    obtain ⟨_, row0, h3⟩ := hno i row h1
    exact ⟨i, row0, O, h3, h2⟩
  have hk : ∀ q u, w.cell? q = some u → gOf H β st.boxes q → w.cell? q = some u ∧ gOf H β (st.freeze id rows).boxes q := fun q u hq hg => ⟨hq, hg.1, fun ho => hg.2 (hown _ ho)⟩
  have hL : ∀ {ps : List PV} {us : List Value}, RepL w (gOf H β st.boxes) β ps us → RepL w (gOf H β (st.freeze id rows).boxes) β (ps.map (fzP id rows)) us := by
    intro ps us hr
    refine ⟨by rw [List.length_map]; exact hr.1, fun i p u h1 h2 => ?_⟩
    rw [List.getElem?_map] at h1
    obtain ⟨q, hq, rfl⟩ := Option.map_eq_some_iff.1 h1
    exact rep_fz h.mem hl hno ((hr.2 i q u hq h2).mono hk)
  refine ⟨h.defers, h.size, h.ext, ⟨h.mem.dom, fun i row hi => ?_, fun i j ri rj Oi Oj hi hj => ?_, h.mem.new, fun p hp => h.mem.inH p (hown _ hp)⟩, fun b hb => h.own b (hown b hb), fun t tv ht => ?_⟩
  · obtain ⟨hne, row0, h1, rfl⟩ := hlk i row hi
    obtain ⟨O, h2, h3⟩ := h.mem.row i row0 h1
    refine ⟨O, h2, ?_⟩
    cases row0 with
    | var cs =>
      obtain ⟨hz, ty, us, hh, hr⟩ := h3
      exact ⟨hz, ty, us, hh, hL hr⟩
    | own e' k' rows' => exact h3.mono hk
    | lst e' t' l' => exact h3.mono hk
  · obtain ⟨_, r1, h1, _⟩ := hlk i ri hi
    obtain ⟨_, r2, h2, _⟩ := hlk j rj hj
    exact h.mem.inj i j r1 r2 Oi Oj h1 h2
  · unfold SSt.get SSt.freeze at ht
    dsimp only at ht
    rw [lookup_map] at ht
    obtain ⟨tv0, h1, rfl⟩ := Option.map_eq_some_iff.1 ht
    obtain ⟨v, hv, hr⟩ := h.env t tv0 h1
    refine ⟨v, hv, ?_⟩
    have hr' := hr.mono hk
    cases hr' with
    | one hp => exact .one (rep_fz h.mem hl hno hp)
    | agg hp =>
      cases hr with
      | agg hp0 => exact .agg (hL hp0)
    | tup k1 k2 => exact .tup k1 k2
    | bad => exact .bad
def oslIds : List PV → List Nat
  | [] => []
  | .osl id _ _ :: xs => id :: oslIds xs
  | _ :: xs => oslIds xs
def TV.oslIds : TV → List Nat
  | .one p => Go.Proofs.YtbljhngekhgbbaaGreat.oslIds [p]
  | .agg ps => Go.Proofs.YtbljhngekhgbbaaGreat.oslIds ps
  | _ => []
def SSt.fzAll (st : SSt) : List Nat → SSt
  | [] => st
  | id :: ids => match st.boxes.lookup id with
    | some (.own _ _ rows) => (st.freeze id rows).fzAll ids
    | _ => st.fzAll ids
def SSt.fzIds (st : SSt) (o : Oper) : List Nat := match o.op with
  | .buildSlice _ _ parts => (parts.toList.map fun x => match st.eval x.2 with
    | some tv => tv.oslIds
    | none => []).flatten
  | .store _ x y => match st.eval x, st.eval y with
    | some (.one (.elp _ _ _)), some tv => tv.oslIds
    | _, _ => []
  | _ => []
def sopZ (P : Program) (st : SSt) (o : Oper) : Option (TV × Store × Nat) := sopM P (st.fzAll (st.fzIds o)) o
theorem freeze_own {β : Ids} {id : Nat} {rows : List (List PV)} {b : Nat} (h : owned β (st.freeze id rows).boxes b) : owned β st.boxes b := by
  obtain ⟨i, row, O, h1, h2⟩ := h
  have h1' : (((Store.rm st.boxes id).map fun e => (e.1, fzR id rows e.2) : Store)).lookup i = some row := h1
  rw [lookup_map, lookup_rm] at h1'
  split at h1'
  · cases h1'
  · obtain ⟨row0, h3, rfl⟩ := Option.map_eq_some_iff.1 h1'
    exact ⟨i, row0, O, h3, h2⟩
theorem Inv.fzAll : ∀ (ids : List Nat) {st : SSt}, Inv ds N W X H β st a w → Inv ds N W X H β (st.fzAll ids) a w ∧ MStep H w β st.boxes st.next w β (st.fzAll ids).boxes (st.fzAll ids).next
  | [], st, h => ⟨h, MStep.refl h.mem⟩
  | id :: ids, st, h => by
    unfold SSt.fzAll
    split
    · rename_i e k rows hl
      have h1 := h.freeze hl
      obtain ⟨h2, h3⟩ := Inv.fzAll ids h1
      have hs : MStep H w β st.boxes st.next w β (st.freeze id rows).boxes (st.freeze id rows).next :=
        ⟨fun _ _ h => h, fun _ _ => rfl, ExtB.refl _ _, h1.mem, fun b hb => .inr (freeze_own hb), Nat.le_refl _⟩
      exact ⟨h2, hs.trans h3⟩
    · exact Inv.fzAll ids h
theorem sopZ_run {o : Oper} {tv : TV} {σ' : Store} {n' : Nat} (h : Inv ds N W X H β st a w) (e : sopZ P st o = some (tv, σ', n')) : Did P H w β st o a tv σ' n' := by
  obtain ⟨h1, h2⟩ := h.fzAll (st.fzIds o)
  obtain ⟨nx, v, w', β', hr, hc, hm, ht⟩ := sopM_run h1 e
  exact ⟨nx, v, w', β', hr, hc, h2.trans hm, ht⟩
end
end Go.Proofs.YtbljhngekhgbbaaGreat
namespace Go.Proofs.YtbljhngekhgbbaaGreat
open Go.RowKit
set_option linter.unusedVariables false
set_option linter.unusedSectionVars false
set_option linter.unusedSimpArgs false
section
variable {ds : List Deferred} {P : Program} {N n n' n2 : Nat} {st : SSt} {w w' : World} {a : Act} {β β' : Ids} {W : World} {X : Nat → Prop} {H : Addr → Prop} {σ σ' σ0 σ2 σ3 : Store}
theorem owned_swap (h1 : ∀ i r', σ'.lookup i = some r' → ∃ r, σ.lookup i = some r) (h2 : ∀ i r, σ.lookup i = some r → ∃ r', σ'.lookup i = some r') : owned β σ' = owned β σ := by
  funext b
  apply propext
  constructor
  · rintro ⟨i, r, O, h, k⟩
    obtain ⟨r0, h0⟩ := h1 i r h
    exact ⟨i, r0, O, h0, k⟩
  · rintro ⟨i, r, O, h, k⟩
    obtain ⟨r0, h0⟩ := h2 i r h
    exact ⟨i, r0, O, h0, k⟩
/-- one store says less than another, row by row -/
def Store.Says (w : World) (β : Ids) (σ σ' : Store) : Prop := (∀ i r', σ'.lookup i = some r' → ∃ r, σ.lookup i = some r ∧ ∀ G O, r.Stands w G β O → r'.Stands w G β O) ∧ ∀ i r, σ.lookup i = some r → ∃ r', σ'.lookup i = some r'
theorem Store.Says.owned (h : Store.Says w β σ σ') : owned β σ' = owned β σ := owned_swap (fun i r' k => let ⟨r, a, _⟩ := h.1 i r' k; ⟨r, a⟩) h.2
theorem Store.Says.gOf (h : Store.Says w β σ σ') (H : Addr → Prop) : gOf H β σ' = gOf H β σ := by unfold Go.Proofs.YtbljhngekhgbbaaGreat.gOf; rw [h.owned]
theorem MemI.swap (h : MemI w H β σ n) (k : Store.Says w β σ σ') : MemI w H β σ' n := by
  have ho := k.owned
  have hg := k.gOf H
  refine ⟨h.dom, fun i r' hr => ?_, fun i j ri rj Oi Oj hi hj => ?_, h.new, fun p hp => h.inH p (by rw [← ho]; exact hp)⟩
  · obtain ⟨r, a1, a2⟩ := k.1 i r' hr
    obtain ⟨O, b1, b2⟩ := h.row i r a1
    exact ⟨O, b1, by rw [hg]; exact a2 _ O b2⟩
  · obtain ⟨r1, a1, _⟩ := k.1 i ri hi
    obtain ⟨r2, a2, _⟩ := k.1 j rj hj
    exact h.inj i j r1 r2 Oi Oj a1 a2
theorem MStep.swapL (h : MStep H w β σ n w' β' σ2 n2) (k : Store.Says w β σ0 σ) : MStep H w β σ0 n w' β' σ2 n2 := by
  have ho := k.owned
  exact ⟨h.more, h.same, by rw [← ho]; exact h.ext, h.mem, fun b hb => by rw [← ho]; exact h.own b hb, h.next⟩
theorem MStep.swapR (h : MStep H w β σ n w' β' σ2 n2) (k : Store.Says w' β' σ2 σ3) : MStep H w β σ n w' β' σ3 n2 :=
  ⟨h.more, h.same, h.ext, h.mem.swap k, fun b hb => h.own b (by rw [← k.owned]; exact hb), h.next⟩
theorem Inv.swap (h : Inv ds N W X H β st a w) (k : Store.Says w β st.boxes σ') : Inv ds N W X H β ⟨st.env, σ', st.next⟩ a w := by
  refine ⟨h.defers, h.size, h.ext, h.mem.swap k, fun b hb => h.own b (by rw [← k.owned]; exact hb), fun t tv ht => ?_⟩
  obtain ⟨v, hv, hr⟩ := h.env t tv ht
  exact ⟨v, hv, by show RepT w (gOf H β σ') β tv v; rw [k.gOf H]; exact hr⟩
/-- a temporary told by less -/
theorem Inv.less (h : Inv ds N W X H β st a w) {t0 : Nat} {tv tv' : TV} (e : st.get t0 = some tv) (hl : tv.Leq tv') : Inv ds N W X H β { st with env := (t0, tv') :: st.env } a w := by
  refine ⟨h.defers, h.size, h.ext, h.mem, h.own, fun t u ht => ?_⟩
  unfold SSt.get at ht
  rw [List.lookup_cons] at ht
  by_cases he : t = t0
  · subst he
    simp at ht
    subst ht
    obtain ⟨v, hv, hr⟩ := h.env t _ e
    exact ⟨v, hv, hl _ _ _ _ hr⟩
  · have he' : (t == t0) = false := by simpa using he
    rw [he'] at ht
    exact h.env t u ht
theorem stands_dec {e : TypeId} {t : Ty} {rows : List (List PV)} {l : List t.El} (hd : decRows t rows = some l) {G : Addr → Prop} {O : Own} (h : (Row.own e t.w rows).Stands w G β O) : (Row.own e t.w (encs t l)).Stands w G β O := by
  obtain ⟨h1, h2, h3⟩ := decRows_leq hd
  rcases h with ⟨hz, rfl⟩ | ⟨hz, hk, cur, us, a1, a2, a3, a4, a5, a6, a7⟩
  · refine .inl ⟨hz, ?_⟩
    have : l = [] := List.eq_nil_of_length_eq_zero h2.symm
    rw [this]; rfl
  · exact .inr ⟨hz, hk, cur, us, a1, a2, a3, by rw [encs_length, ← h2]; exact a4, fun r hr => by rw [encs_all t l r hr, hk], by rw [encs_length, ← h2]; exact a6, h1.rep a7⟩
theorem sl_dec {T : Ty} {rows : List (List PV)} {ys : List T.El} {xf : Bool} (hd : decRows T rows = some ys) : (TV.one (.sl xf rows)).Leq (.one (.sl xf (encs T ys))) := by
  intro w G β v hr
  obtain ⟨h1, h2, h3⟩ := decRows_leq hd
  have e : (encs T ys).length = rows.length := by rw [encs_length, h2]
  cases hr with
  | one hp =>
    cases hp with
    | sl0 hx hA =>
      have : ys = [] := List.eq_nil_of_length_eq_zero h2.symm
      subst this
      exact .one (.sl0 hx hA)
    | sl h hx hk hl hc hr =>
      have hL := h1.rep (w := w) (G := G) (β := noIds) ⟨hl, hr⟩
      have := RepP.sl (w := w) (G := G) (β := β) (x := xf) (k := T.w) (rows := encs T ys) (by rw [e]; exact h) (fun q => by rw [e]; exact hx q) (encs_all T ys) hL.1 hc hL.2
      rw [e] at this
      exact .one this
end
def SSt.dstL (st : SSt) (T : Ty) (e : TypeId) (s : Operand) : Option (Bool × Option Nat × List T.El) := match st.eval s with
  | some (.one (.sl true [])) => some (true, none, [])
  | some (.one (.osl id 0 n)) => match st.boxes.lookup id with
    | some (.lst e' t' l) => if h : t' = T then (if e' = e then some (Nat.beq n l.length, some id, h ▸ l) else none) else none
    | some (.own e' k' rows) => if e' = e ∧ k' = T.w ∧ n = rows.length then (decRows T rows).map fun l => (true, some id, l) else none
    | _ => none
  | _ => none
def SSt.srcL (st : SSt) (T : Ty) (x : Operand) : Option (List T.El) := match st.eval x with
  | some (.one (.sl _ rows)) => decRows T rows
  | some (.one (.dat t' l)) => if h : t' = T then some (h ▸ l) else none
  | _ => none
def SSt.tyL (st : SSt) (x : Operand) : Option Ty := match st.eval x with
  | some (.one (.dat t' _)) => some t'
  | some (.one (.osl id _ _)) => match st.boxes.lookup id with
    | some (.lst _ t' _) => some t'
    | _ => none
  | _ => none
/-- append at data: what must hold, what comes of it -/
def sopL (P : Program) (st : SSt) (o : Oper) : Option (Bool × TV × Store × Nat) := match o.op with
  | .call { callee := .builtin .append, args := args, argTypes := ts } => match args.toList, ts.toList with
    | [s, x], [t, t'] => if t = t' then match (st.tyL s).or (st.tyL x) with
      | some T => (elemD P t).bind fun e => (bytesP P e).bind fun b => if elemOk P e T.w = true ∧ sizeP P e = some T.w then (st.dstL T e s).bind fun q => (st.srcL T x).map fun ys =>
          (q.1 && (Nat.ble ((q.2.2.length + ys.length) * b) 140737488355328 && Nat.ble (q.2.2.length + ys.length) maxLen), .one (.osl st.next 0 (q.2.2 ++ ys).length), (st.next, .lst e T (q.2.2 ++ ys)) :: rmO st.boxes q.2.1, st.next + 1) else none
      | none => none else none
    | _, _ => none
  | _ => none
section
variable {ds : List Deferred} {P : Program} {N n n' n2 : Nat} {st : SSt} {w w' : World} {a : Act} {β β' : Ids} {W : World} {X : Nat → Prop} {H : Addr → Prop} {σ σ' σ0 σ2 σ3 : Store}
theorem dstL_ok (h : Inv ds N W X H β st a w) {T : Ty} {e : TypeId} {s : Operand} {d : Option Nat} {l : List T.El} (hq : st.dstL T e s = some (true, d, l)) :
    ∃ σ1, Store.Says w β st.boxes σ1 ∧ (⟨st.env, σ1, st.next⟩ : SSt).dest? s e T.w = some (d, encs T l) ∧ (∀ i, (rmO σ1 d).lookup i = (rmO st.boxes d).lookup i) ∧ (d = none → l = []) := by
  unfold SSt.dstL at hq
  have key : ∀ {id m : Nat} {row0 : Row} {l : List T.El}, st.eval s = some (.one (.osl id 0 m)) → st.boxes.lookup id = some row0 → m = l.length → (∀ G O, row0.Stands w G β O → (Row.own e T.w (encs T l)).Stands w G β O) →
      ∃ σ1, Store.Says w β st.boxes σ1 ∧ (⟨st.env, σ1, st.next⟩ : SSt).dest? s e T.w = some (some id, encs T l) ∧ (∀ i, (rmO σ1 (some id)).lookup i = (rmO st.boxes (some id)).lookup i) ∧ (some id = none → l = []) := by
    intro id m row0 l hs hl hm hst
    refine ⟨Store.set st.boxes id (.own e T.w (encs T l)), ⟨fun i r' hr => ?_, fun i r hr => ?_⟩, ?_, fun i => ?_, fun h => by cases h⟩
    · rw [lookup_set] at hr
      split at hr
      · rename_i he
        subst he
        obtain rfl := Option.some.inj hr
        exact ⟨row0, hl, hst⟩
      · exact ⟨r', hr, fun _ _ h => h⟩
    · rw [lookup_set]
      split
      · exact ⟨_, rfl⟩
      · exact ⟨r, hr⟩
    · have hs' : (⟨st.env, Store.set st.boxes id (.own e T.w (encs T l)), st.next⟩ : SSt).eval s = some (.one (.osl id 0 m)) := by rw [← hs]; cases s <;> rfl
      have hlk : (Store.set st.boxes id (.own e T.w (encs T l))).lookup id = some (.own e T.w (encs T l)) := by rw [lookup_set, if_pos rfl]
      unfold SSt.dest?
      simp only [hs', hlk]
      rw [if_pos ⟨trivial, trivial, by rw [encs_length, hm]; exact Nat.le_refl _⟩, List.take_of_length_le (by rw [encs_length, hm]; exact Nat.le_refl _)]
    · show (Store.rm (Store.set st.boxes id _) id).lookup i = (Store.rm st.boxes id).lookup i
      rw [lookup_rm, lookup_rm, lookup_set]
      split <;> rfl
  split at hq
  · rename_i hs
    simp only [Option.some.injEq, Prod.mk.injEq, true_and] at hq
    obtain ⟨rfl, rfl⟩ := hq
    refine ⟨st.boxes, ⟨fun i r hr => ⟨r, hr, fun _ _ h => h⟩, fun i r hr => ⟨r, hr⟩⟩, ?_, fun i => rfl, fun _ => rfl⟩
    have hs' : (⟨st.env, st.boxes, st.next⟩ : SSt).eval s = some (.one (.sl true [])) := hs
    unfold SSt.dest?
    rw [hs']
    rfl
  · rename_i id m hs
    split at hq
    · rename_i e' t' l' hl
      split at hq
      rotate_left
      · cases hq
      rename_i ht
      subst ht
      split at hq
      rotate_left
      · cases hq
      rename_i he
      subst he
      simp only [Option.some.injEq, Prod.mk.injEq] at hq
      obtain ⟨hb, rfl, rfl⟩ := hq
      exact key hs hl (by simpa using hb) fun G O h => h
    · rename_i e' k' rows hl
      split at hq
      rotate_left
      · cases hq
      rename_i hc
      obtain ⟨rfl, rfl, rfl⟩ := hc
      obtain ⟨l', hd, hq⟩ := Option.map_eq_some_iff.1 hq
      simp only [Prod.mk.injEq, true_and] at hq
      obtain ⟨rfl, rfl⟩ := hq
      exact key hs hl (decRows_leq hd).2.1 fun G O h => stands_dec hd h
    · cases hq
  · cases hq
theorem srcL_ok (h : Inv ds N W X H β st a w) {T : Ty} {x : Operand} {ys : List T.El} (hq : st.srcL T x = some ys) :
    ∃ env1, Inv ds N W X H β { st with env := env1 } a w ∧ (∀ σ m, (⟨env1, σ, m⟩ : SSt).rows? x = some (encs T ys)) ∧ ∀ (s : Operand) (e : TypeId) (k : Nat) (σ : Store) (m : Nat) (d : Option Nat) (r : List (List PV)), (⟨st.env, σ, m⟩ : SSt).dest? s e k = some (d, r) → (d = none → r = []) → (⟨env1, σ, m⟩ : SSt).dest? s e k = some (d, r) := by
  unfold SSt.srcL at hq
  have key : ∀ {t0 : Nat} {tv : TV} {xf : Bool}, x = .tmp t0 → st.get t0 = some tv → tv.Leq (.one (.sl xf (encs T ys))) → (∀ (id n : Nat), tv ≠ .one (.osl id 0 n)) → (tv = .one (.sl true []) → xf = true ∧ ys = []) → (∀ rows, tv = .one (.sl true rows) → rows = [] → xf = true ∧ ys = []) →
      ∃ env1, Inv ds N W X H β { st with env := env1 } a w ∧ (∀ σ m, (⟨env1, σ, m⟩ : SSt).rows? x = some (encs T ys)) ∧ ∀ (s : Operand) (e : TypeId) (k : Nat) (σ : Store) (m : Nat) (d : Option Nat) (r : List (List PV)), (⟨st.env, σ, m⟩ : SSt).dest? s e k = some (d, r) → (d = none → r = []) → (⟨env1, σ, m⟩ : SSt).dest? s e k = some (d, r) := by
    rintro t0 tv xf rfl ht hl hno h0 h1
    refine ⟨(t0, .one (.sl xf (encs T ys))) :: st.env, h.less ht hl, fun σ m => ?_, fun s e k σ m d r hd hn => ?_⟩
    · have : (⟨(t0, .one (.sl xf (encs T ys))) :: st.env, σ, m⟩ : SSt).eval (.tmp t0) = some (.one (.sl xf (encs T ys))) := by
        show List.lookup t0 ((t0, _) :: st.env) = _
        rw [List.lookup_cons]; simp
      unfold SSt.rows?
      rw [this]
    · by_cases hs : s = .tmp t0
      · subst hs
        have e0 : (⟨st.env, σ, m⟩ : SSt).eval (.tmp t0) = some tv := ht
        have e1 : (⟨(t0, .one (.sl xf (encs T ys))) :: st.env, σ, m⟩ : SSt).eval (.tmp t0) = some (.one (.sl xf (encs T ys))) := by
          show List.lookup t0 ((t0, _) :: st.env) = _
          rw [List.lookup_cons]; simp
        unfold SSt.dest? at hd ⊢
        rw [e0] at hd
        rw [e1]
        split at hd
        · rename_i rows hr
          simp only [Option.some.injEq, Prod.mk.injEq] at hd
          obtain ⟨rfl, rfl⟩ := hd
          obtain rfl := Option.some.inj hr
          obtain ⟨rfl, rfl⟩ := h1 _ rfl (hn rfl)
          rw [hn rfl]
          rfl
        · rename_i id n hr
          exact absurd (Option.some.inj hr) (hno id n)
        · cases hd
      · have e1 : (⟨(t0, .one (.sl xf (encs T ys))) :: st.env, σ, m⟩ : SSt).eval s = (⟨st.env, σ, m⟩ : SSt).eval s := by
          cases s with
          | tmp t =>
            have : (t == t0) = false := by simp; intro he; exact hs (by rw [he])
            show List.lookup t ((t0, _) :: st.env) = List.lookup t st.env
            rw [List.lookup_cons, this]
          | _ => rfl
        unfold SSt.dest? at hd ⊢
        rw [e1]
        exact hd
  split at hq
  · rename_i xf rows hx
    cases x with
    | tmp t0 => exact key (xf := xf) rfl hx (sl_dec hq) (fun id n h => by cases h) (fun h => by
        cases h
        exact ⟨rfl, by simpa [decRows] using hq.symm⟩) (fun rows' h h0 => by
        cases h
        subst h0
        exact ⟨rfl, by simpa [decRows] using hq.symm⟩)
    | const v =>
      have hr : rows = [] := by
        have h1 : ofVal v = some (.one (.sl xf rows)) := hx
        unfold ofVal at h1
        split at h1
        · split at h1 <;> simp at h1
        · split at h1
          · simp only [Option.some.injEq, TV.one.injEq] at h1
            unfold ofCell at h1
            split at h1
            · cases h1; rfl
            · cases h1
          · cases h1
      subst hr
      have hy : ys = [] := by simpa [decRows] using hq.symm
      subst hy
      refine ⟨st.env, h, fun σ m => ?_, fun s e k σ m d r hd _ => hd⟩
      have : (⟨st.env, σ, m⟩ : SSt).eval (.const v) = some (.one (.sl xf [])) := hx
      unfold SSt.rows?
      rw [this]
      rfl
    | func f => simp [SSt.eval] at hx
    | global g => simp [SSt.eval] at hx
  · rename_i t' l hx
    split at hq
    rotate_left
    · cases hq
    rename_i ht
    subst ht
    obtain rfl := Option.some.inj hq
    obtain ⟨t0, rfl⟩ := eval_dat hx
    exact key (xf := false) rfl hx (fun w G β v hr => hr.dat_) (fun id n h => by cases h) (fun h => by cases h) (fun rows h => by cases h)
  · cases hq
theorem sopL_run {o : Oper} {b : Bool} {tv : TV} {σ' : Store} {n' : Nat} (h : Inv ds N W X H β st a w) (e : sopL P st o = some (b, tv, σ', n')) (hb : b = true) : Did P H w β st o a tv σ' n' := by
  subst hb
  obtain ⟨dst, op, ty, pos, after, guard⟩ := o
  unfold sopL at e
  dsimp only at e
  split at e
  rotate_left
  · cases e
  rename_i args ts
  split at e
  rotate_left
  · cases e
  rename_i s x t t' h1 h2
  have ea : args = #[s, x] := Array.ext' h1
  have et : ts = #[t, t'] := Array.ext' h2
  subst ea
  subst et
  split at e
  rotate_left
  · cases e
  rename_i htt
  subst htt
  split at e
  rotate_left
  · cases e
  rename_i T hT
  obtain ⟨el, he, e⟩ := Option.bind_eq_some_iff.1 e
  obtain ⟨by_, hby, e⟩ := Option.bind_eq_some_iff.1 e
  split at e
  rotate_left
  · cases e
  rename_i hok
  obtain ⟨⟨c, d, l⟩, hd, e⟩ := Option.bind_eq_some_iff.1 e
  obtain ⟨ys, hy, e⟩ := Option.map_eq_some_iff.1 e
  simp only [Prod.mk.injEq, Bool.and_eq_true] at e
  obtain ⟨⟨rfl, c1, c2⟩, rfl, rfl, rfl⟩ := e
  have c1 := Nat.le_of_ble_eq_true c1
  have c2 := Nat.le_of_ble_eq_true c2
  obtain ⟨σ1, s1, s2, s3, s4⟩ := dstL_ok h hd
  obtain ⟨env1, x1, x2, x3⟩ := srcL_ok h hy
  have hI : Inv ds N W X H β ⟨env1, σ1, st.next⟩ a w := x1.swap s1
  have happ : appS P ⟨env1, σ1, st.next⟩ t s x = some (el, T.w, by_, d, encs T l, encs T ys) := by
    unfold appS
    rw [he]
    simp only [Option.bind_some]
    rw [hok.2]
    simp only [Option.bind_some]
    rw [hby]
    simp only [Option.bind_some]
    rw [if_pos hok.1, x3 s el T.w σ1 st.next d (encs T l) s2 (fun hn => by rw [s4 hn]; rfl)]
    simp only [Option.bind_some]
    rw [x2 σ1 st.next]
    rfl
  have hdid := append_did hI (dst := dst) (ty := ty) (pos := pos) (af := after) (gd := guard) happ (fun hn => .inl (by rw [s4 hn]; rfl)) (by rw [encs_length, encs_length]; exact c1) (by rw [encs_length, encs_length]; exact c2) (encs_all T l) (encs_all T ys)
  obtain ⟨nx, v, w', β', hr, hc, hm, hv⟩ := hdid
  have hsay : Store.Says w' β' ((st.next, .own el T.w (encs T l ++ encs T ys)) :: rmO σ1 d) ((st.next, .lst el T (l ++ ys)) :: rmO st.boxes d) := by
    have hl : ∀ {r1 r2 : Row} (i : Nat), List.lookup i ((st.next, r1) :: rmO σ1 d) = if i = st.next then some r1 else (rmO σ1 d).lookup i := fun i => by
      rw [List.lookup_cons]
      by_cases hi : i = st.next
      · subst hi; simp
      · have : (i == st.next) = false := by simpa using hi
        rw [this, if_neg hi]
    have hl2 : ∀ {r1 : Row} (i : Nat), List.lookup i ((st.next, r1) :: rmO st.boxes d) = if i = st.next then some r1 else (rmO st.boxes d).lookup i := fun i => by
      rw [List.lookup_cons]
      by_cases hi : i = st.next
      · subst hi; simp
      · have : (i == st.next) = false := by simpa using hi
        rw [this, if_neg hi]
    refine ⟨fun i r' hr => ?_, fun i r hr => ?_⟩
    · rw [hl2] at hr
      split at hr
      · rename_i hi
        obtain rfl := Option.some.inj hr
        refine ⟨.own el T.w (encs T l ++ encs T ys), by rw [List.lookup_cons, hi]; simp, fun G O hs => ?_⟩
        rw [← encs_append] at hs
        exact hs
      · rename_i hi
        refine ⟨r', ?_, fun _ _ h => h⟩
        have : (i == st.next) = false := by simpa using hi
        rw [List.lookup_cons, this]
        dsimp only
        rw [s3]
        exact hr
    · rw [hl2]
      split
      · exact ⟨_, rfl⟩
      · rename_i hi
        have : (i == st.next) = false := by simpa using hi
        rw [List.lookup_cons, this] at hr
        dsimp only at hr
        rw [s3] at hr
        exact ⟨r, hr⟩
  refine ⟨nx, v, w', β', hr, hc, (hm.swapR hsay).swapL s1, ?_⟩
  rw [hsay.gOf H]
  rw [encs_length, encs_length, ← List.length_append] at hv
  exact hv
/-- the same as one of the operations that look at nothing but the state -/
def sopL1 (P : Program) (st : SSt) (o : Oper) : Option (TV × Store × Nat) := match sopL P st o with
  | some (true, q) => some q
  | _ => none
theorem sopL1_run {o : Oper} {tv : TV} {σ' : Store} {n' : Nat} (h : Inv ds N W X H β st a w) (e : sopL1 P st o = some (tv, σ', n')) : Did P H w β st o a tv σ' n' := by
  unfold sopL1 at e
  split at e
  · rename_i q hq
    obtain rfl := Option.some.inj e
    exact sopL_run h hq rfl
  · cases e
def finP (σ : Store) : PV → Option (Bool × PV)
  | .osl id 0 n => match σ.lookup id with
    | some (.lst _ t l) => some (Nat.beq n l.length, .dat t l)
    | some (.own _ _ rows) => some (Nat.beq n rows.length, .sl false rows)
    | _ => none
  | p => if p.free = true then some (true, p) else none
def finL (σ : Store) : List PV → Option (Bool × List PV)
  | [] => some (true, [])
  | p :: ps => (finP σ p).bind fun q => (finL σ ps).map fun r => (q.1 && r.1, q.2 :: r.2)
def finT1 (σ : Store) : TV → Option (Bool × TV)
  | .one p => (finP σ p).map fun q => (q.1, .one q.2)
  | .agg ps => (finL σ ps).map fun q => (q.1, .agg q.2)
  | _ => none
def finTs (σ : Store) : List TV → Option (Bool × List TV)
  | [] => some (true, [])
  | t :: ts => (finT1 σ t).bind fun q => (finTs σ ts).map fun r => (q.1 && r.1, q.2 :: r.2)
def finT (σ : Store) : TV → Option (Bool × TV)
  | .tup ts => (finTs σ ts).map fun q => (q.1, .tup q.2)
  | t => finT1 σ t
theorem finP_ok (h : MemI w H β σ n) {p p' : PV} {v : Value} (e : finP σ p = some (true, p')) (hp : RepP w (gOf H β σ) β p v) : RepP w (gOf H β []) β p' v ∧ p'.free = true := by
  have hg : ∀ q u, w.cell? q = some u → gOf H β σ q → w.cell? q = some u ∧ gOf H β [] q := fun q u hq hg => ⟨hq, hg.1, fun ⟨i, row, O, h1, _⟩ => by simp at h1⟩
  unfold finP at e
  split at e
  · rename_i id m
    have key : ∀ {el : TypeId} {k : Nat} {rows : List (List PV)}, (∀ O, β id = some O → ∃ row, σ.lookup id = some row ∧ (row.Stands w (gOf H β σ) β O → (Row.own el k rows).Stands w (gOf H β σ) β O)) → m = rows.length → RepP w (gOf H β []) β (.sl false rows) v ∧ rows.length ≤ maxLen := by
      intro el k rows hl hm
      cases hp with
      | osl hO hz hn =>
        rename_i O
        obtain ⟨row, hl, hst⟩ := hl O hO
        obtain ⟨O', hO', hs⟩ := h.row id row hl
        rw [hO] at hO'
        obtain rfl := Option.some.inj hO'
        have hin : ∀ q : Nat, gOf H β [] (O.at q) := fun q => by
          refine ⟨h.inH _ ⟨id, row, O, hl, hO, hz, ?_⟩, fun ⟨i, row, O, h1, _⟩ => by simp at h1⟩
          unfold Own.at; rw [block_of_add]
        rcases hst hs with hs | ⟨-, hkk, cur, us, h1, h2, h3, h4, h5, h6, h7⟩
        · rw [hs.1] at hz; cases hz
        · have hL := h7.mono hg
          have hcell : ∀ (i : Nat) (u : Value), us[i]? = some u → w.cell? ((O.at (0 * O.k)).add i) = some u ∧ gOf H β [] ((O.at (0 * O.k)).add i) := by
            intro i u hu
            rw [Own.at_add, Nat.zero_mul, Nat.zero_add]
            refine ⟨?_, hin _⟩
            unfold Own.at
            rw [cell_at' h1]
            rw [← h6, List.getElem?_take] at hu
            split at hu
            · exact hu
            · cases hu
          have := RepP.sl (w := w) (G := gOf H β []) (β := β) (x := false) (c := O.c - 0) (k := O.k) (rows := rows) (us := us) (a := O.at (0 * O.k)) (by omega) (fun h => by cases h) h5 hL.1 hcell hL.2
          rw [← hm] at this
          exact ⟨this, Nat.le_trans h4 h3⟩
      | osl0 hO hz =>
        have : rows = [] := List.eq_nil_of_length_eq_zero hm.symm
        subst this
        exact ⟨.sl0 (fun h => by cases h) (fun _ => rfl), Nat.zero_le _⟩
    split at e
    · rename_i el t l hl
      simp only [Option.some.injEq, Prod.mk.injEq] at e
      obtain ⟨e1, rfl⟩ := e
      obtain ⟨k1, k2⟩ := key (el := el) (k := t.w) (rows := encs t l) (fun O _ => ⟨_, hl, fun h => h⟩) (by rw [encs_length]; simpa using e1)
      rw [encs_length] at k2
      exact ⟨.dat k2 rfl k1, rfl⟩
    · rename_i el k rows hl
      simp only [Option.some.injEq, Prod.mk.injEq] at e
      obtain ⟨e1, rfl⟩ := e
      exact ⟨(key (el := el) (k := k) (rows := rows) (fun O _ => ⟨_, hl, fun h => h⟩) (by simpa using e1)).1, rfl⟩
    · cases e
  · split at e
    · rename_i hf
      simp only [Option.some.injEq, Prod.mk.injEq, true_and] at e
      subst e
      exact ⟨hp.mono hg, hf⟩
    · cases e
theorem finL_ok (h : MemI w H β σ n) : ∀ {ps ps' : List PV} {us : List Value}, finL σ ps = some (true, ps') → RepL w (gOf H β σ) β ps us → RepL w (gOf H β []) β ps' us ∧ PV.frees ps' = true
  | [], ps', us, e, hr => by
    simp only [finL, Option.some.injEq, Prod.mk.injEq, true_and] at e
    subst e
    obtain rfl := List.eq_nil_of_length_eq_zero hr.1
    exact ⟨RepL.nil_, rfl⟩
  | p :: ps, ps', us, e, hr => by
    simp only [finL] at e
    obtain ⟨⟨b1, q⟩, h1, e⟩ := Option.bind_eq_some_iff.1 e
    obtain ⟨⟨b2, qs⟩, h2, e⟩ := Option.map_eq_some_iff.1 e
    simp only [Prod.mk.injEq, Bool.and_eq_true] at e
    obtain ⟨⟨rfl, rfl⟩, rfl⟩ := e
    cases us with
    | nil => have := hr.1; simp at this
    | cons u us =>
      obtain ⟨r1, r2⟩ := RepL.cons_.1 hr
      obtain ⟨a1, a2⟩ := finP_ok h h1 r1
      obtain ⟨a3, a4⟩ := finL_ok h h2 r2
      exact ⟨RepL.cons_.2 ⟨a1, a3⟩, by simp [PV.frees, a2, a4]⟩
theorem finT1_ok (h : MemI w H β σ n) {t t' : TV} {v : Value} (e : finT1 σ t = some (true, t')) (hr : RepT w (gOf H β σ) β t v) : RepT w (gOf H β []) β t' v ∧ t'.free = true := by
  unfold finT1 at e
  split at e
  · obtain ⟨⟨b, q⟩, h1, e⟩ := Option.map_eq_some_iff.1 e
    simp only [Prod.mk.injEq] at e
    obtain ⟨rfl, rfl⟩ := e
    cases hr with
    | one hp => exact ⟨.one (finP_ok h h1 hp).1, (finP_ok h h1 hp).2⟩
  · obtain ⟨⟨b, q⟩, h1, e⟩ := Option.map_eq_some_iff.1 e
    simp only [Prod.mk.injEq] at e
    obtain ⟨rfl, rfl⟩ := e
    cases hr with
    | agg hp => exact ⟨.agg (finL_ok h h1 hp).1, (finL_ok h h1 hp).2⟩
  · cases e
theorem finTs_ok (h : MemI w H β σ n) : ∀ {ts ts' : List TV} {vs : List Value}, finTs σ ts = some (true, ts') → RepTs w (gOf H β σ) β ts vs → RepTs w (gOf H β []) β ts' vs ∧ TV.frees ts' = true
  | [], ts', vs, e, hr => by
    simp only [finTs, Option.some.injEq, Prod.mk.injEq, true_and] at e
    subst e
    obtain rfl := List.eq_nil_of_length_eq_zero hr.1
    exact ⟨⟨rfl, fun i t v h => by simp at h⟩, rfl⟩
  | t :: ts, ts', vs, e, hr => by
    simp only [finTs] at e
    obtain ⟨⟨b1, q⟩, h1, e⟩ := Option.bind_eq_some_iff.1 e
    obtain ⟨⟨b2, qs⟩, h2, e⟩ := Option.map_eq_some_iff.1 e
    simp only [Prod.mk.injEq, Bool.and_eq_true] at e
    obtain ⟨⟨rfl, rfl⟩, rfl⟩ := e
    cases vs with
    | nil => have := hr.1; simp at this
    | cons v vs =>
      obtain ⟨a1, a2⟩ := finT1_ok h h1 (hr.2 0 t v rfl rfl)
      obtain ⟨a3, a4⟩ := finTs_ok h h2 (vs := vs) ⟨by simpa using hr.1, fun i s u h1 h2 => hr.2 (i + 1) s u (by simpa using h1) (by simpa using h2)⟩
      refine ⟨⟨by simp [a3.1], fun i s u k1 k2 => ?_⟩, by simp [TV.frees, a2, a4]⟩
      cases i with
      | zero => simp at k1 k2; subst k1; subst k2; exact a1
      | succ i => exact a3.2 i s u (by simpa using k1) (by simpa using k2)
theorem finT_ok (h : MemI w H β σ n) {t t' : TV} {v : Value} (e : finT σ t = some (true, t')) (hr : RepT w (gOf H β σ) β t v) : RepT w (gOf H β []) β t' v ∧ t'.free = true := by
  unfold finT at e
  split at e
  · obtain ⟨⟨b, q⟩, h1, e⟩ := Option.map_eq_some_iff.1 e
    simp only [Prod.mk.injEq] at e
    obtain ⟨rfl, rfl⟩ := e
    cases hr with
    | tup hl hp =>
      rename_i vs
      obtain ⟨a1, a2⟩ := finTs_ok h h1 (vs := vs.toList) ⟨by simpa using hl, fun i t v k1 k2 => hp i t v k1 (by simpa using k2)⟩
      exact ⟨.tup (by simpa using a1.1) fun i t v k1 k2 => a1.2 i t v k1 (by simpa using k2), a2⟩
  · exact finT1_ok h e hr
theorem finP_free {p p' : PV} {b : Bool} (e : finP σ p = some (b, p')) : p'.free = true := by
  unfold finP at e
  split at e
  · split at e
    · cases e; rfl
    · cases e; rfl
    · cases e
  · split at e
    · rename_i hf; cases e; exact hf
    · cases e
theorem finL_free : ∀ {ps ps' : List PV} {b : Bool}, finL σ ps = some (b, ps') → PV.frees ps' = true
  | [], ps', b, e => by cases e; rfl
  | p :: ps, ps', b, e => by
    simp only [finL] at e
    obtain ⟨⟨b1, q⟩, h1, e⟩ := Option.bind_eq_some_iff.1 e
    obtain ⟨⟨b2, qs⟩, h2, e⟩ := Option.map_eq_some_iff.1 e
    cases e
    simp [PV.frees, finP_free h1, finL_free h2]
theorem finT1_free {t t' : TV} {b : Bool} (e : finT1 σ t = some (b, t')) : t'.free = true := by
  unfold finT1 at e
  split at e
  · obtain ⟨q, h1, e⟩ := Option.map_eq_some_iff.1 e
    cases e
    exact finP_free h1
  · obtain ⟨q, h1, e⟩ := Option.map_eq_some_iff.1 e
    cases e
    exact finL_free h1
  · cases e
theorem finTs_free : ∀ {ps ps' : List TV} {b : Bool}, finTs σ ps = some (b, ps') → TV.frees ps' = true
  | [], ps', b, e => by cases e; rfl
  | p :: ps, ps', b, e => by
    simp only [finTs] at e
    obtain ⟨⟨b1, q⟩, h1, e⟩ := Option.bind_eq_some_iff.1 e
    obtain ⟨⟨b2, qs⟩, h2, e⟩ := Option.map_eq_some_iff.1 e
    cases e
    simp [TV.frees, finT1_free h1, finTs_free h2]
theorem finT_free {t t' : TV} {b : Bool} (e : finT σ t = some (b, t')) : t'.free = true := by
  unfold finT at e
  split at e
  · obtain ⟨q, h1, e⟩ := Option.map_eq_some_iff.1 e
    cases e
    exact finTs_free h1
  · exact finT1_free e
/-- what a call hands back stays -/
theorem CallsG.fin {f : FuncId} {ts : List TV} {r r' : TV} (h : CallsG P f σ n ts r σ' n') (e : finT σ' r = some (true, r')) : CallsG P f σ n ts r' [] n' ∧ r'.free = true := by
  have hfree : r'.free = true := finT_free e
  refine ⟨fun w H β args hM ha => ?_, hfree⟩
  refine (h w H β args hM ha).mono ?_
  rintro e' w' ⟨v, β', rfl, hs, hr⟩
  obtain ⟨a1, a2⟩ := finT_ok hs.mem e hr
  exact ⟨v, β', rfl, hs.trans (MStep.drop hs.mem (fun i row h => by simp at h) (Nat.le_refl _)), a1⟩
end
end Go.Proofs.YtbljhngekhgbbaaGreat
namespace Go.Proofs.YtbljhngekhgbbaaGreat
open Go.RowKit
set_option linter.unusedVariables false
set_option linter.unusedSectionVars false
set_option linter.unusedSimpArgs false
/-- append: what comes of it -/
def sopA (P : Program) (st : SSt) (o : Oper) : Option (TV × Store) := match o.op with
  | .call { callee := .builtin .append, args := args, argTypes := ts } => match args.toList, ts.toList with
    | [s, x], [t, t'] => if t = t' then (appS P st t s x).bind fun q => if (q.2.2.2.1.isSome || q.2.2.2.2.1.isEmpty || !q.2.2.2.2.2.isEmpty) = true ∧ Nat.ble ((q.2.2.2.2.1.length + q.2.2.2.2.2.length) * q.2.2.1) 140737488355328 = true ∧ Nat.ble (q.2.2.2.2.1.length + q.2.2.2.2.2.length) maxLen = true ∧
        q.2.2.2.2.1.all (·.length == q.2.1) = true ∧ q.2.2.2.2.2.all (·.length == q.2.1) = true then
      some (.one (.osl st.next 0 (q.2.2.2.2.1.length + q.2.2.2.2.2.length)), (st.next, .own q.1 q.2.1 (q.2.2.2.2.1 ++ q.2.2.2.2.2)) :: rmO st.boxes q.2.2.2.1) else none else none
    | _, _ => none
  | _ => none
/-- append, clear, copy -/
def sopE (P : Program) (st : SSt) (o : Oper) : Option (TV × Store × Nat) := match sopA P st o with
  | some q => some (q.1, q.2, st.next + 1)
  | none => match sopC P st o with
    | some q => some q
    | none => sopS P st o
def SSt.evals (st : SSt) : List Operand → Option (List TV)
  | [] => some []
  | x :: xs => (st.eval x).bind fun v => (st.evals xs).map (v :: ·)
def ofVals : List Value → Option (List TV)
  | [] => some []
  | v :: vs => (ofVal v).bind fun t => (ofVals vs).map (t :: ·)
def enterB (P : Program) (g : FuncId) : Bool := match P.funcs[g]? with
  | some fn => !(fn.name == "runtime.NumGoroutine") && fn.body.isSome
  | none => false
def SSt.callee (st : SSt) (o : Oper) : Option (FuncId × List TV) := match o.op with
  | .call { callee := .value f, args := args, argTypes := _ } => match st.eval f with
    | some (.one (.lit (.func (.func g) first cap))) => (ofVals first.toList).bind fun f1 => (st.evals args.toList).bind fun ts => (ofVals cap.toList).map fun c1 => (g, f1 ++ ts ++ c1)
    | some (.one (.clo (.func g) first cap)) => (st.evals args.toList).map fun ts => (g, first.map .one ++ ts ++ cap.map .one)
    | _ => none
  | _ => none
def SSt.guard (st : SSt) (ops : Array Oper) (o : Oper) : Option Bool := match o.guard with
  | none => some true
  | some (j, want) => match (ops[j]?).bind (·.dst) with
    | none => some false
    | some d => match st.get d with
      | some (.one (.lit (.bool b))) => some (b == want)
      | some (.tup []) => some false
      | _ => none
def dstB (N : Nat) (o : Oper) : Bool := match o.dst with
  | none => true
  | some d => decide (d < N)
/-- what is asked of a call -/
inductive Ask1 where
  | pure (f : FuncId) (ts : List TV) (r : TV)
  | eff (f : FuncId) (σ : Store) (n : Nat) (ts : List TV) (r : TV) (σ' : Store) (n' : Nat)
def Ask1.ok (P : Program) : Ask1 → Prop
  | .pure f ts r => CallsTo P f ts r
  | .eff f σ n ts r σ' n' => CallsG P f σ n ts r σ' n'
/-- what a call answers: the store stays, or turns -/
inductive Ans where
  | pure (r : TV)
  | eff (r : TV) (σ' : Store) (n' : Nat)
  | mem
  | lst
/-- an operation's value, and the store behind it; a call's answer is given -/
def stepF (P : Program) (N : Nat) (ops : Array Oper) (st : SSt) (o : Oper) (c : Option Ans) : Option (SSt × List Ask1) :=
  if dstB N o = true then match st.guard ops o with
    | some false => some (st.put o.dst (.tup []), [])
    | some true => match c with
      | some .mem => match sopW P st o with
        | some _ => none
        | none => (sopZ P st o).map fun q => (({ st with boxes := q.2.1, next := q.2.2 } : SSt).put o.dst q.1, [])
      | some .lst => (sopL1 P st o).map fun q => (({ st with boxes := q.2.1, next := q.2.2 } : SSt).put o.dst q.1, [])
      | some (.pure r) => match st.callee o with
        | some (g, ts) => if enterB P g = true then some (st.put o.dst r, [.pure g ts r]) else none
        | none => none
      | some (.eff r σ' n') => match st.callee o with
        | some (g, ts) => if enterB P g = true then some (({ st with boxes := σ', next := n' } : SSt).put o.dst r, [.eff g st.boxes st.next ts r σ' n']) else none
        | none => none
      | none => match sopW P st o with
        | some tv => some (st.put o.dst tv, [])
        | none => match sopM P st o with
          | some (tv, bx, n') => some (({ st with boxes := bx, next := n' } : SSt).put o.dst tv, [])
          | none => match sopE P st o with
            | some (tv, bx, n') => some (({ st with boxes := bx, next := n' } : SSt).put o.dst tv, [])
            | none => none
    | none => none
  else none
def lexF (P : Program) (N : Nat) (ops : Array Oper) (C : List (Nat × Ans)) : List Oper → Nat → SSt → Option (SSt × List Ask1)
  | [], i, st => some (st, [])
  | o :: rest, i, st => (stepF P N ops st o (C.lookup i)).bind fun q => (lexF P N ops C rest (i + 1) q.1).map fun r => (r.1, q.2 ++ r.2)
section
variable {ds : List Deferred} {P : Program} {N : Nat} {W w w' : World} {X : Nat → Prop} {H : Addr → Prop} {β : Ids} {st : SSt} {a : Act} {G : Addr → Prop} {ops : Array Oper} {Q : Exit → Act → World → Prop}
theorem RepTs.cons_ {t : TV} {ts : List TV} {v : Value} {vs : List Value} (h : RepT w G β t v) (k : RepTs w G β ts vs) : RepTs w G β (t :: ts) (v :: vs) := by
  refine ⟨by simp [k.1], fun i s u h1 h2 => ?_⟩
  cases i with
  | zero => simp at h1 h2; subst h1; subst h2; exact h
  | succ i => exact k.2 i s u (by simpa using h1) (by simpa using h2)
theorem RepTs.nil_ : RepTs w G β [] [] := ⟨rfl, fun i t v h => by simp at h⟩
theorem RepTs.append {ts ss : List TV} {vs us : List Value} (h : RepTs w G β ts vs) (k : RepTs w G β ss us) : RepTs w G β (ts ++ ss) (vs ++ us) := by
  refine ⟨by rw [List.length_append, List.length_append, h.1, k.1], fun i p u h1 h2 => ?_⟩
  by_cases hi : i < ts.length
  · rw [List.getElem?_append_left hi] at h1
    rw [List.getElem?_append_left (by rw [h.1]; exact hi)] at h2
    exact h.2 i p u h1 h2
  · rw [List.getElem?_append_right (by omega)] at h1
    rw [List.getElem?_append_right (by rw [h.1]; omega)] at h2
    rw [h.1] at h2
    exact k.2 _ p u h1 h2
theorem RepTs.of_pvs {ps : List PV} {vs : Array Value} (h1 : vs.size = ps.length) (h : ∀ (i : Nat) (p : PV) (u : Value), ps[i]? = some p → vs[i]? = some u → RepP w G β p u) : RepTs w G β (ps.map .one) vs.toList := by
  refine ⟨by simpa using h1, fun i t v ht hv => ?_⟩
  rw [List.getElem?_map] at ht
  obtain ⟨p, hp, rfl⟩ := Option.map_eq_some_iff.1 ht
  exact .one (h i p v hp (by rw [← Array.getElem?_toList]; exact hv))
theorem Inv.evals_ (h : Inv ds N W X H β st a w) : ∀ {xs : List Operand} {ts : List TV}, st.evals xs = some ts → RepTs w (st.G H β) β ts (xs.map a.eval)
  | [], ts, e => by simp [SSt.evals] at e; subst e; exact .nil_
  | x :: xs, ts, e => by
    simp only [SSt.evals, Option.bind_eq_some_iff, Option.map_eq_some_iff] at e
    obtain ⟨v, hv, r, hr, rfl⟩ := e
    exact .cons_ (h.eval hv) (h.evals_ hr)
theorem rep_ofVals : ∀ {vs : List Value} {ts : List TV}, ofVals vs = some ts → RepTs w G β ts vs
  | [], ts, e => by simp [ofVals] at e; subst e; exact .nil_
  | v :: vs, ts, e => by
    simp only [ofVals, Option.bind_eq_some_iff, Option.map_eq_some_iff] at e
    obtain ⟨t, ht, r, hr, rfl⟩ := e
    exact .cons_ (rep_ofVal ht) (rep_ofVals hr)
theorem run_enter {g : FuncId} (h : enterB P g = true) (args : Array Value) (w : World) : (callFunc g args).run P w = .ok (.enter g args) w := by
  unfold enterB at h
  split at h
  · rename_i fn hf
    simp only [Bool.and_eq_true, Bool.not_eq_true'] at h
    obtain ⟨b, hb⟩ := Option.isSome_iff_exists.1 h.2
    unfold callFunc
    have hn : ¬ fn.name = "runtime.NumGoroutine" := by simpa using h.1
    simp [program, Sem.run, hf, hn, hb]
  · cases h
/-- a call, by its contract -/
theorem call_run {o : Oper} {g : FuncId} {ts : List TV} {r : TV} {σ' : Store} {n' : Nat} (h : Inv ds N W X H β st a w) (e : st.callee o = some (g, ts)) (hg : enterB P g = true) (hc : CallsG P g st.boxes st.next ts r σ' n') {K : Act → World → Prop}
    (hK : ∀ v w' β', MStep H w β st.boxes st.next w' β' σ' n' → RepT w' (gOf H β' σ') β' r v → K (a.put o.dst v) w') : o.wp P a w K Q := by
  obtain ⟨dst, op, ty, pos, after, guard⟩ := o
  have fin : ∀ (f : Operand) (args : Array Operand) (aty : Array TypeId) (first cap : Array Value), op = .call { callee := .value f, args := args, argTypes := aty } → a.eval f = .func (.func g) first cap →
      RepTs w (st.G H β) β ts (first.toList ++ args.toList.map a.eval ++ cap.toList) → Oper.wp P ⟨dst, op, ty, pos, after, guard⟩ a w K Q := by
    intro f args aty first cap hop hv hargs
    subst hop
    have hcall := hc w H β _ h.mem hargs
    have hrun : (execOp a.eval { dst := dst, op := .call { callee := .value f, args := args, argTypes := aty }, type := ty, pos := pos, after := after, guard := guard }).run P w = .ok (.enter g (first.toList ++ args.toList.map a.eval ++ cap.toList).toArray) w := by
      unfold execOp resolve
      simp only [hv, Deferred.ofValue]
      show (callFunc g (first ++ args.map a.eval ++ cap)).run P w = _
      rw [run_enter hg]
      congr 2
      apply Array.ext'
      simp
    unfold Oper.wp
    rw [hrun]
    refine hcall.mono ?_
    rintro e w' ⟨v, β', rfl, hs, hr⟩
    exact hK v w' β' hs hr
  unfold SSt.callee at e
  dsimp only at e
  split at e
  · rename_i f args aty
    split at e
    · rename_i g' first cap hf
      obtain ⟨f1, h1, e⟩ := Option.bind_eq_some_iff.1 e
      obtain ⟨ts', h2, e⟩ := Option.bind_eq_some_iff.1 e
      obtain ⟨c1, h3, e⟩ := Option.map_eq_some_iff.1 e
      obtain ⟨rfl, rfl⟩ := Prod.mk.inj e
      exact fin f args aty first cap rfl ((h.eval hf).val (u := .func (.func g') first cap) rfl) (((rep_ofVals h1).append (h.evals_ h2)).append (rep_ofVals h3))
    · rename_i g' first cap hf
      obtain ⟨ts', h2, e⟩ := Option.map_eq_some_iff.1 e
      obtain ⟨rfl, rfl⟩ := Prod.mk.inj e
      have hr := h.eval hf
      generalize hv : a.eval f = u at hr
      cases hr with
      | one hp =>
        cases hp with
        | clo k1 k2 kf kc => exact fin f args aty _ _ rfl hv (((RepTs.of_pvs k1 kf).append (h.evals_ h2)).append (RepTs.of_pvs k2 kc))
    · cases e
  · cases e
theorem Inv.guard_ (h : Inv ds N W X H β st a w) {o : Oper} {b : Bool} (e : st.guard ops o = some b) : Region.wanted o (yielded ops a.tmps) = b := by
  unfold SSt.guard at e
  unfold Region.wanted
  cases hg : o.guard with
  | none => rw [hg] at e; simpa using e
  | some q =>
    obtain ⟨j, want⟩ := q
    rw [hg] at e
    dsimp only at e ⊢
    unfold yielded
    cases hd : (ops[j]?).bind (·.dst) with
    | none => rw [hd] at e; simp at e ⊢; exact e
    | some d =>
      rw [hd] at e
      dsimp only at e
      split at e
      · rename_i b' hb
        obtain ⟨v, hv, hr⟩ := h.env d _ hb
        have := hr.val (u := .bool b') rfl
        subst this
        simp only [Option.bind_some, hv]
        simpa using e
      · rename_i hb
        obtain ⟨v, hv, hr⟩ := h.env d _ hb
        cases hr with
        | tup hl hh =>
          simp only [Option.bind_some, hv]
          simpa using e
      · cases e
theorem sopA_run {o : Oper} {tv : TV} {σ' : Store} (h : Inv ds N W X H β st a w) (e : sopA P st o = some (tv, σ')) : Did P H w β st o a tv σ' (st.next + 1) := by
  obtain ⟨dst, op, ty, pos, after, guard⟩ := o
  unfold sopA at e
  dsimp only at e
  split at e
  rotate_left
  · cases e
  rename_i args ts
  split at e
  rotate_left
  · cases e
  rename_i s x t t' h1 h2
  split at e
  rotate_left
  · cases e
  rename_i htt
  subst htt
  obtain ⟨q, hq, e⟩ := Option.bind_eq_some_iff.1 e
  obtain ⟨el, k, b, d, rows, ys⟩ := q
  dsimp only at e
  split at e
  rotate_left
  · cases e
  rename_i hc
  obtain ⟨rfl, rfl⟩ := Prod.mk.inj (Option.some.inj e)
  obtain ⟨c1, c2, c3, c4, c5⟩ := hc
  have ea : args = #[s, x] := Array.ext' h1
  have et : ts = #[t, t] := Array.ext' h2
  subst ea
  subst et
  refine append_did h hq (fun hd => ?_) (Nat.le_of_ble_eq_true c2) (Nat.le_of_ble_eq_true c3) (all_len c4) (all_len c5)
  subst hd
  simp only [Option.isSome_none, Bool.false_or, Bool.or_eq_true, List.isEmpty_iff, Bool.not_eq_true', List.isEmpty_eq_false_iff] at c1
  exact c1
theorem sopE_run {o : Oper} {tv : TV} {σ' : Store} {n' : Nat} (h : Inv ds N W X H β st a w) (e : sopE P st o = some (tv, σ', n')) : Did P H w β st o a tv σ' n' := by
  unfold sopE at e
  split at e
  · rename_i q hq
    simp only [Option.some.injEq, Prod.mk.injEq] at e
    obtain ⟨rfl, rfl, rfl⟩ := e
    exact sopA_run h hq
  · split at e
    · rename_i q hq
      obtain rfl := Option.some.inj e
      exact sopC_run h hq
    · exact sopS_run h e
end
end Go.Proofs.YtbljhngekhgbbaaGreat
namespace Go.Proofs.YtbljhngekhgbbaaGreat
open Go.RowKit
set_option linter.unusedVariables false
set_option linter.unusedSectionVars false
set_option linter.unusedSimpArgs false
/-- where a function began: its world, the blocks that may be written, the cells that stay, its ids -/
structure Ctx where
  W : World
  X : Nat → Prop
  H : Addr → Prop
  n0 : Nat
  β0 : Ids
  ds : List Deferred
def InvC (N : Nat) (C : Ctx) (β : Ids) (st : SSt) (a : Act) (w : World) : Prop := Inv C.ds N C.W C.X C.H β st a w ∧ (∀ i, i < C.n0 → β i = C.β0 i) ∧ C.n0 ≤ st.next
/-- from a state on, code comes to an end for which Q -/
def SW (P : Program) (N : Nat) (C : Ctx) (c : Code) (Q : Exit → SSt → Prop) (st : SSt) : Prop :=
  ∀ (β : Ids) (a : Act) (w : World), InvC N C β st a w → c.wp P (fun e a' w' => ∃ st' β', InvC N C β' st' a' w' ∧ Q e st') a w
def SThen (next : SSt → Prop) (Q : Exit → SSt → Prop) : Exit → SSt → Prop
  | .normal, st => next st
  | e, st => Q e st
def SIn (id : Nat) (Q : Exit → SSt → Prop) : Exit → SSt → Prop
  | .exit i, st => if i = id then Q .normal st else Q (.exit i) st
  | e, st => Q e st
def resS (P : Program) (st : SSt) : List ResultVar → Option (List TV)
  | [] => some []
  | .tmp t :: rs => (st.get t).bind fun v => (resS P st rs).map (v :: ·)
  | .cell x t :: rs => match st.get x with
    | some (.one (.box id off)) => match st.boxes.lookup id with
      | some (.var xs) => (readRow P t xs off).bind fun v => (resS P st rs).map (v :: ·)
      | _ => none
    | _ => none
def retS : List TV → TV
  | [t] => t
  | ts => .tup ts
def startS (ts : List TV) (σ : Store) (n : Nat) : SSt := ⟨ts.zipIdx.map fun x => (x.2, x.1), σ, n⟩
section
variable {P : Program} {N : Nat} {C : Ctx} {st : SSt} {Q Q' : Exit → SSt → Prop} {w w' : World} {a : Act} {β : Ids}
theorem SW.mono {c : Code} (h : SW P N C c Q st) (hq : ∀ e s, Q e s → Q' e s) : SW P N C c Q' st :=
  fun β a w hi => wp_mono (h β a w hi) fun e a' w' ⟨s, b, h1, h2⟩ => ⟨s, b, h1, hq _ _ h2⟩
theorem SW.skip (h : Q .normal st) : SW P N C .skip Q st := fun β a w hi => wp_skip ⟨st, β, hi, h⟩
theorem SW.label {l : Nat} (h : Q .normal st) : SW P N C (.label l) Q st := fun β a w hi => wp_label ⟨st, β, hi, h⟩
theorem SW.exit {id : Nat} (h : Q (.exit id) st) : SW P N C (.exit id) Q st := fun β a w hi => wp_exit ⟨st, β, hi, h⟩
theorem SW.ret (h : Q .ret st) : SW P N C .ret Q st := fun β a w hi => wp_ret ⟨st, β, hi, h⟩
theorem SW.seq {x y : Code} (h : SW P N C x (SThen (SW P N C y Q) Q) st) : SW P N C (.seq x y) Q st := fun β a w hi => by
  refine wp_seq (wp_mono (h β a w hi) ?_)
  rintro e a' w' ⟨s, b, h1, h2⟩
  cases e with
  | normal => exact h2 b a' w' h1
  | _ => exact ⟨s, b, h1, h2⟩
theorem SW.cond {c : Operand} {x y : Code} {t : Bool} (hc : st.eval c = some (.one (.lit (.bool t)))) (h : SW P N C (if t = true then x else y) Q st) : SW P N C (.cond c x y) Q st := fun β a w hi =>
  wp_cond ((hi.1.eval hc).val (u := .bool t) rfl) (h β a w hi)
theorem SW.block {id : Nat} {c : Code} (h : SW P N C c (SIn id Q) st) : SW P N C (.block id c) Q st := fun β a w hi => by
  refine wp_block (wp_mono (h β a w hi) ?_)
  rintro e a' w' ⟨s, b, h1, h2⟩
  cases e with
  | exit i =>
    simp only [SIn] at h2
    simp only [Exit.inBlock]
    split
    · rename_i e; rw [if_pos e] at h2; exact ⟨s, b, h1, h2⟩
    · rename_i e; rw [if_neg e] at h2; exact ⟨s, b, h1, h2⟩
  | _ => exact ⟨s, b, h1, h2⟩
theorem exists_min {p : Nat → Prop} (h : ∃ n, p n) : ∃ n, p n ∧ ∀ m, p m → n ≤ m := by
  obtain ⟨n, hn⟩ := h
  induction n using Nat.strongRecOn with
  | _ n ih =>
    by_cases hm : ∃ m, m < n ∧ p m
    · obtain ⟨m, hlt, hp⟩ := hm
      exact ih m hlt hp
    · exact ⟨n, hn, fun m hp => Nat.le_of_not_lt fun hlt => hm ⟨m, hlt, hp⟩⟩
open Classical in
open Classical in
theorem SW.loop1 {c : Code} (I : Nat → SSt → Prop) (n1 : Nat) (h0 : I n1 st) (round : ∀ n s, I n s → SW P N C c (SThen (fun s' => ∃ m, m < n ∧ I m s') Q) s) : SW P N C (.loop c) Q st := fun β a w hi => by
  let J : Nat → Act → World → Prop := fun n a w => ∃ s b, InvC N C b s a w ∧ I n s
  let μ : Act → World → Nat := fun a w => if h : ∃ n, J n a w then Classical.choose (exists_min h) else 0
  refine wp_loop (fun a w => ∃ n, J n a w) μ ⟨n1, st, β, hi, h0⟩ ?_
  intro a w hJ
  have hm : μ a w = Classical.choose (exists_min hJ) := dif_pos hJ
  obtain ⟨s, b, h1, h2⟩ := (Classical.choose_spec (exists_min hJ)).1
  refine wp_mono (round _ s h2 b a w h1) ?_
  rintro e a' w' ⟨s', b', h3, h4⟩
  cases e with
  | normal =>
    obtain ⟨m, hlt, h5⟩ := h4
    have hJ' : ∃ n, J n a' w' := ⟨m, s', b', h3, h5⟩
    refine ⟨hJ', ?_⟩
    have : μ a' w' = Classical.choose (exists_min hJ') := dif_pos hJ'
    rw [this, hm]
    exact Nat.lt_of_le_of_lt ((Classical.choose_spec (exists_min hJ')).2 m ⟨s', b', h3, h5⟩) hlt
  | _ => exact ⟨s', b', h3, h4⟩
theorem InvC.step (h : InvC N C β st a w) {β' : Ids} {σ' : Store} {n' : Nat} (k : MStep C.H w β st.boxes st.next w' β' σ' n') : InvC N C β' { st with boxes := σ', next := n' } a w' :=
  ⟨h.1.step k, fun i hi => by rw [k.same i (Nat.lt_of_lt_of_le hi h.2.2)]; exact h.2.1 i hi, Nat.le_trans h.2.2 k.next⟩
theorem InvC.put (h : InvC N C β st a w) {dst : Option Nat} {tv : TV} {v : Value} (hr : RepT w (st.G C.H β) β tv v) (hd : ∀ d, dst = some d → d < N) : InvC N C β (st.put dst tv) (a.put dst v) w :=
  ⟨h.1.put hr hd, h.2.1, by rw [SSt.put_next]; exact h.2.2⟩
theorem rep_undef {G : Addr → Prop} : RepT w G β (.tup []) undef := .tup rfl fun i t v h => by simp at h
theorem dst_ok {o : Oper} (h : dstB N o = true) : ∀ d, o.dst = some d → d < N := by
  intro d hd
  unfold dstB at h
  rw [hd] at h
  simpa using h
/-- one operation -/
theorem step_ok2 {ops : Array Oper} {R : Exit → Act → World → Prop} {o : Oper} {c : Option Ans} {st1 : SSt} {cs : List Ask1} (e : stepF P N ops st o c = some (st1, cs)) (hcs : ∀ q ∈ cs, q.ok P) (h : InvC N C β st a w) {K : Act → World → Prop}
    (hK : ∀ a' w' β', InvC N C β' st1 a' w' → (∃ v, a' = a.put o.dst v) → ExtB (owned β st.boxes) w w' → (∀ i, i < st.next → β' i = β i) → K a' w') : if Region.wanted o (yielded ops a.tmps) then o.wp P a w K R else K (a.put o.dst undef) w := by
  have bump : ∀ {tv : TV} {v : Value} {w2 : World} {β2 : Ids} {σ2 : Store} {n2 : Nat}, MStep C.H w β st.boxes st.next w2 β2 σ2 n2 → RepT w2 (gOf C.H β2 σ2) β2 tv v → (∀ d, o.dst = some d → d < N) → InvC N C β2 (({ st with boxes := σ2, next := n2 } : SSt).put o.dst tv) (a.put o.dst v) w2 := fun hm ht hd => (h.step hm).put ht hd
  unfold stepF at e
  split at e
  · rename_i hd
    have hdd := dst_ok hd
    split at e
    · rename_i hg
      obtain ⟨rfl, rfl⟩ := Prod.mk.inj (Option.some.inj e)
      rw [h.1.guard_ hg]
      simp only [Bool.false_eq_true, if_false]
      exact hK _ _ β (h.put rep_undef hdd) ⟨_, rfl⟩ (ExtB.refl _ _) (fun _ _ => rfl)
    · rename_i hg
      rw [h.1.guard_ hg]
      simp only [if_true]
      have did : ∀ {tv : TV} {bx : Store} {n2 : Nat}, Did P C.H w β st o a tv bx n2 → (∀ a' w' β', InvC N C β' (({ st with boxes := bx, next := n2 } : SSt).put o.dst tv) a' w' → (∃ v, a' = a.put o.dst v) → ExtB (owned β st.boxes) w w' → (∀ i, i < st.next → β' i = β i) → K a' w') → o.wp P a w K R := by
        rintro tv bx n2 ⟨nx, v, w', β', hr, hcase, hm, ht⟩ hK
        rcases hcase with rfl | ⟨rfl, rfl⟩
        · exact wp_value hr (hK _ _ β' (bump hm ht hdd) ⟨_, rfl⟩ hm.ext hm.same)
        · exact wp_skip_ hr (hK _ _ β' (bump hm ht hdd) ⟨_, rfl⟩ hm.ext hm.same)
      split at e
      · split at e
        · cases e
        · obtain ⟨⟨tv, bx, n2⟩, hm, e⟩ := Option.map_eq_some_iff.1 e
          obtain ⟨rfl, rfl⟩ := Prod.mk.inj e
          exact did (sopZ_run h.1 hm) hK
      · obtain ⟨⟨tv, bx, n2⟩, hm, e⟩ := Option.map_eq_some_iff.1 e
        obtain ⟨rfl, rfl⟩ := Prod.mk.inj e
        exact did (sopL1_run h.1 hm) hK
      · rename_i r
        split at e
        · rename_i g ts hcal
          split at e
          · rename_i hen
            obtain ⟨rfl, rfl⟩ := Prod.mk.inj (Option.some.inj e)
            have hc : CallsTo P g ts r := hcs (.pure g ts r) (by simp)
            exact call_run h.1 hcal hen (hc st.boxes st.next) fun v w' β' hm hr => hK _ _ β' (bump hm hr hdd) ⟨_, rfl⟩ hm.ext hm.same
          · cases e
        · cases e
      · rename_i r σ' n'
        split at e
        · rename_i g ts hcal
          split at e
          · rename_i hen
            obtain ⟨rfl, rfl⟩ := Prod.mk.inj (Option.some.inj e)
            have hc : CallsG P g st.boxes st.next ts r σ' n' := hcs (.eff g st.boxes st.next ts r σ' n') (by simp)
            exact call_run h.1 hcal hen hc fun v w' β' hm hr => hK _ _ β' (bump hm hr hdd) ⟨_, rfl⟩ hm.ext hm.same
          · cases e
        · cases e
      · split at e
        · rename_i tv hv
          obtain ⟨rfl, rfl⟩ := Prod.mk.inj (Option.some.inj e)
          obtain ⟨v, hr, hrep⟩ := sopW_run h.1 hv
          exact wp_value hr (hK _ _ β (h.put hrep hdd) ⟨_, rfl⟩ (ExtB.refl _ _) (fun _ _ => rfl))
        · split at e
          · rename_i tv bx n2 hm
            obtain ⟨rfl, rfl⟩ := Prod.mk.inj (Option.some.inj e)
            exact did (sopM_run h.1 hm) hK
          · split at e
            · rename_i tv bx n2 hm
              obtain ⟨rfl, rfl⟩ := Prod.mk.inj (Option.some.inj e)
              exact did (sopE_run h.1 hm) hK
            · cases e
    · cases e
  · cases e
theorem step_ok {ops : Array Oper} {R : Exit → Act → World → Prop} {o : Oper} {c : Option Ans} {st1 : SSt} {cs : List Ask1} (e : stepF P N ops st o c = some (st1, cs)) (hcs : ∀ q ∈ cs, q.ok P) (h : InvC N C β st a w) {K : Act → World → Prop}
    (hK : ∀ a' w' β', InvC N C β' st1 a' w' → (∃ v, a' = a.put o.dst v) → ExtB (owned β st.boxes) w w' → K a' w') : if Region.wanted o (yielded ops a.tmps) then o.wp P a w K R else K (a.put o.dst undef) w :=
  step_ok2 e hcs h fun a' w' β' h1 h2 h3 _ => hK a' w' β' h1 h2 h3
theorem lex_ok {ops : Array Oper} {R : Exit → Act → World → Prop} (D : List (Nat × Ans)) : ∀ (rest : List Oper) (i : Nat) (st st1 : SSt) (cs : List Ask1) (β : Ids) (a : Act) (w : World), (∀ j, rest[j]? = ops[i + j]?) → lexF P N ops D rest i st = some (st1, cs) → (∀ q ∈ cs, q.ok P) →
    InvC N C β st a w → (∀ a' w' β', InvC N C β' st1 a' w' → R .normal a' w') → wpOps P ops R (List.range' i rest.length) a w
  | [], i, st, st1, cs, β, a, w, _, e, _, h, hQ => by
    simp only [lexF, Option.some.injEq, Prod.mk.injEq] at e
    obtain ⟨rfl, rfl⟩ := e
    exact hQ _ _ β h
  | o :: rest, i, st, st1, cs, β, a, w, hr, e, hcs, h, hQ => by
    simp only [lexF, Option.bind_eq_some_iff, Option.map_eq_some_iff] at e
    obtain ⟨⟨s1, c1⟩, h1, ⟨s2, c2⟩, h2, e⟩ := e
    obtain ⟨rfl, rfl⟩ := Prod.mk.inj e
    have ho : ops[i]? = some o := by simpa using (hr 0).symm
    rw [List.length_cons, List.range'_succ, wpOps_cons]
    unfold wpOp
    rw [ho]
    have hs := step_ok (R := R) h1 (fun q hq => hcs q (by simp [hq])) h (K := wpOps P ops R (List.range' (i + 1) rest.length)) (fun a' w' β' hi _ _ =>
      lex_ok D rest (i + 1) s1 s2 c2 β' a' w' (fun j => by have := hr (j + 1); simp only [List.getElem?_cons_succ] at this; rw [this]; congr 1; omega) h2 (fun q hq => hcs q (by simp [hq])) hi hQ)
    dsimp only
    by_cases hw : Region.wanted o (yielded ops a.tmps) = true
    · rw [if_pos hw] at hs ⊢
      exact .inl hs
    · rw [if_neg hw] at hs ⊢
      exact hs
theorem SW.region {id : Nat} {ops : Array Oper} {st1 : SSt} {cs : List Ask1} (D : List (Nat × Ans)) (e : lexF P N ops D ops.toList 0 st = some (st1, cs)) (hcs : ∀ q ∈ cs, q.ok P) (h : Q .normal st1) : SW P N C (.region id ops false) Q st := fun β a w hi => by
  refine wp_region ?_
  have := lex_ok (P := P) (ops := ops) (R := fun e a' w' => ∃ st' β', InvC N C β' st' a' w' ∧ Q e st') D ops.toList 0 st st1 cs β a w (fun j => by rw [Array.getElem?_toList]; congr 1; omega) e hcs hi (fun a' w' β' hi' => ⟨st1, β', hi', h⟩)
  rw [Array.length_toList] at this
  rw [List.range_eq_range']
  exact this
end
end Go.Proofs.YtbljhngekhgbbaaGreat
namespace Go.Proofs.YtbljhngekhgbbaaGreat
open Go.RowKit
set_option linter.unusedVariables false
set_option linter.unusedSectionVars false
set_option linter.unusedSimpArgs false
def Sub (σ τ : Store) : Prop := ∀ i row, σ.lookup i = some row → τ.lookup i = some row
section
variable {ds : List Deferred} {P : Program} {N n n' : Nat} {C : Ctx} {st : SSt} {Q Q' : Exit → SSt → Prop} {w w' : World} {a : Act} {β : Ids} {W : World} {X : Nat → Prop} {H : Addr → Prop}
def resQ (tmps : Array Value) : ResultVar → Sem Value
  | .tmp t => pure (tmps.getD t undef)
  | .cell x t => do loadVar t (← asAddr (tmps.getD x undef))
theorem run_results (hi : Inv ds N W X H β st a w) : ∀ {rs : List ResultVar} {ts : List TV}, resS P st rs = some ts → ∃ vs, (rs.mapM (resQ a.tmps)).run P w = .ok vs w ∧ RepTs w (st.G H β) β ts vs
  | [], ts, e => by
    simp only [resS, Option.some.injEq] at e
    subst e
    exact ⟨[], rfl, .nil_⟩
  | .tmp t :: rs, ts, e => by
    simp only [resS, Option.bind_eq_some_iff, Option.map_eq_some_iff] at e
    obtain ⟨v, hv, r, hr, rfl⟩ := e
    obtain ⟨vs, h1, h2⟩ := run_results hi hr
    obtain ⟨u, hu, hrep⟩ := hi.env t v hv
    refine ⟨u :: vs, ?_, .cons_ hrep h2⟩
    have e1 : (resQ a.tmps (.tmp t)).run P w = .ok u w := by
      have : a.tmps.getD t undef = u := by simp [Array.getD_eq_getD_getElem?, hu]
      show Result.ok (a.tmps.getD t undef) w = _
      rw [this]
    rw [List.mapM_cons, Sem.run_bind, e1, Result.andThen_ok, Sem.run_bind, h1]
    rfl
  | .cell x t :: rs, ts, e => by
    simp only [resS] at e
    split at e
    · rename_i id off hx
      split at e
      · rename_i xs hb
        simp only [Option.bind_eq_some_iff, Option.map_eq_some_iff] at e
        obtain ⟨v, hv, r, hr, rfl⟩ := e
        obtain ⟨vs, h1, h2⟩ := run_results hi hr
        obtain ⟨u, hu, hrep⟩ := hi.env x _ hx
        obtain ⟨O, hO, hz, rfl⟩ := hrep.box_
        obtain ⟨ty, us, hh, hl⟩ := hi.var_ hb hO
        obtain ⟨y, hy, hyr⟩ := run_read (P := P) (ad := ⟨O.b, 0, none⟩) hv hl (fun i u hu => by rw [cell_at hh, hu])
        refine ⟨y :: vs, ?_, .cons_ hyr h2⟩
        have e1 : (resQ a.tmps (.cell x t)).run P w = .ok y w := by
          have : a.tmps.getD x undef = .pointer (some ((⟨O.b, 0, none⟩ : Addr).add off)) := by simp [Array.getD_eq_getD_getElem?, hu, Own.at]
          show (do loadVar t (← asAddr (a.tmps.getD x undef)) : Sem Value).run P w = _
          rw [this]
          exact hy
        rw [List.mapM_cons, Sem.run_bind, e1, Result.andThen_ok, Sem.run_bind, h1]
        rfl
      · cases e
    · cases e
theorem callsG_of {f : FuncId} {fn : Func} {c : Code} {σ σ' : Store} {ts : List TV} {r : TV} (hf : P.funcs[f]? = some fn) (hb : fn.body = some c) (hn : ts.length ≤ fn.ntmps)
    (h : ∀ C : Ctx, C.n0 = n → SW P fn.ntmps C c (fun e st => (e = .normal ∨ e = .ret) ∧ (resS P st fn.results.toList).map retS = some r ∧ Sub σ' st.boxes ∧ st.next ≤ n') (startS ts σ n)) : CallsG P f σ n ts r σ' n' := by
  intro w H β args hM hargs
  refine calls_of_wp hf hb ?_
  let C : Ctx := ⟨w, owned β σ, H, n, β, []⟩
  have hlen : args.toArray.size = ts.length := by rw [List.size_toArray]; exact hargs.1
  have hI : InvC fn.ntmps C β (startS ts σ n) { tmps := args.toArray ++ Array.replicate (fn.ntmps - args.toArray.size) undef, defers := [] } w := by
    refine ⟨⟨rfl, by simp; have := hargs.1; omega, ExtB.refl _ w, hM, fun b hb => .inr hb, fun t tv ht => ?_⟩, fun _ _ => rfl, Nat.le_refl _⟩
    have hk : ∀ (l : List TV) (k : Nat), (l.zipIdx k |>.map fun x => (x.2, x.1)).lookup t = some tv → k ≤ t ∧ l[t - k]? = some tv := by
      intro l
      induction l with
      | nil => intro k hk; simp at hk
      | cons x l ih =>
        intro k hk
        rw [List.zipIdx_cons, List.map_cons, List.lookup_cons] at hk
        by_cases e : t = k
        · subst e
          simp at hk
          subst hk
          exact ⟨Nat.le_refl _, by simp⟩
        · have e' : (t == k) = false := by simpa using e
          rw [e'] at hk
          obtain ⟨h1, h2⟩ := ih (k + 1) hk
          refine ⟨by omega, ?_⟩
          have : t - k = (t - (k + 1)) + 1 := by omega
          rw [this, List.getElem?_cons_succ]
          exact h2
    have ht' := (hk ts 0 ht).2
    rw [Nat.sub_zero] at ht'
    have hlt : t < args.length := by rw [hargs.1]; exact (List.getElem?_eq_some_iff.1 ht').1
    refine ⟨args[t], ?_, hargs.2 t tv _ ht' (List.getElem?_eq_getElem hlt)⟩
    rw [Array.getElem?_append_left (by simpa using hlt)]
    simp [List.getElem?_eq_getElem hlt]
  refine wp_mono (h C rfl _ _ _ hI) ?_
  rintro e a' w' ⟨st, β', ⟨hi, hbase, hn0⟩, he, hres, hsub, hnx⟩
  obtain ⟨us, hus, rfl⟩ := Option.map_eq_some_iff.1 hres
  obtain ⟨vs, hrun, hrep⟩ := run_results hi hus
  have hdrop := MStep.drop hi.mem (σ' := σ') (n' := n') hsub hnx
  have hown : ∀ b, owned β' σ' b → owned β' st.boxes b := fun b ⟨id, row, O, h1, h2⟩ => ⟨id, row, O, hsub id row h1, h2⟩
  have hstep : MStep H w β σ n w' β' σ' n' := by
    refine ⟨fun i o hi' => ?_, fun i hlt => hbase i hlt, hi.ext, hdrop.mem, fun b hb => hi.own b (hown b hb), Nat.le_trans hn0 hnx⟩
    have hlt : i < n := by
      refine Nat.lt_of_not_le fun hle => ?_
      rw [hM.dom i hle] at hi'
      cases hi'
    rw [hbase i hlt]
    exact hi'
  have hfin : ∃ v, (results fn a'.tmps).run P w' = .ok v w' ∧ RepT w' (st.G H β') β' (retS us) v := by
    have e0 : results fn a'.tmps = (do let vs ← fn.results.mapM (resQ a'.tmps); pure (if h : vs.size = 1 then vs[0] else .tuple vs)) := by
      unfold results
      congr 1
    rw [e0, Array.mapM_eq_mapM_toList, Sem.run_bind, Sem.run_map, hrun]
    simp only [Result.andThen_ok]
    by_cases h1 : vs.length = 1
    · obtain ⟨v, rfl⟩ := List.length_eq_one_iff.1 h1
      have : us.length = 1 := by rw [← hrep.1]; rfl
      obtain ⟨u, rfl⟩ := List.length_eq_one_iff.1 this
      refine ⟨v, ?_, hrep.2 0 u v rfl rfl⟩
      simp [pure]
    · have hu1 : us.length ≠ 1 := by rw [← hrep.1]; exact h1
      refine ⟨.tuple vs.toArray, ?_, ?_⟩
      · rw [dif_neg (by simpa using h1)]; rfl
      · have : retS us = .tup us := by
          match us, hu1 with
          | [], _ => rfl
          | [_], h => exact absurd rfl h
          | _ :: _ :: _, _ => rfl
        rw [this]
        exact .tup (by simpa using hrep.1) fun i t v h2 h3 => hrep.2 i t v h2 (by simpa using h3)
  obtain ⟨v, hv, hvr⟩ := hfin
  have hpost : a'.defers = [] ∧ ∃ v, (results fn a'.tmps).run P w' = .ok v w' ∧ (∃ v' β'', Ending.returned v = .returned v' ∧ MStep H w β σ n w' β'' σ' n' ∧ RepT w' (gOf H β'' σ') β'' (retS us) v') :=
    ⟨hi.defers, v, hv, v, β', rfl, hstep, hvr.mono hdrop.keep⟩
  rcases he with rfl | rfl
  · exact hpost
  · exact hpost
end
end Go.Proofs.YtbljhngekhgbbaaGreat
namespace Go.Proofs.YtbljhngekhgbbaaGreat
open Go.RowKit
set_option linter.unusedVariables false
set_option linter.unusedSectionVars false
set_option linter.unusedSimpArgs false
section
variable {P : Program} {N n n' : Nat} {C : Ctx} {st : SSt} {Q Q' : Exit → SSt → Prop} {w w' : World} {a : Act} {β : Ids} {env : List (Nat × TV)} {bx : Store}
/-- an empty slice without room becomes an own row -/
theorem SW.own {c : Code} (t : Nat) (e : TypeId) (k : Nat) (ht : env.lookup t = some (.one (.sl true []))) (h : SW P N C c Q ⟨(t, .one (.osl n 0 0)) :: env, (n, .own e k []) :: bx, n + 1⟩) : SW P N C c Q ⟨env, bx, n⟩ := fun β a w hi => by
  obtain ⟨β', hm, hβ⟩ := app_turn (w' := w) hi.1.mem (d := none) (e := e) (k := k) (rs := []) (O0 := ⟨0, 0, k, true⟩) (.inl rfl) rfl rfl rfl (Nat.le_refl _) (fun _ _ _ => rfl) (fun G' β' hk => .inl ⟨rfl, rfl⟩)
  have h1 := hi.step hm
  refine h β' a w ⟨⟨h1.1.defers, h1.1.size, h1.1.ext, h1.1.mem, h1.1.own, fun x tv hx => ?_⟩, h1.2⟩
  unfold SSt.get at hx
  rw [List.lookup_cons] at hx
  by_cases e : x = t
  · subst e
    simp at hx
    subst hx
    obtain ⟨v, hv, hr⟩ := hi.1.env x _ ht
    refine ⟨v, hv, ?_⟩
    obtain ⟨A, c, rfl, hc, hxc, -⟩ := hr.sl_
    have := hxc rfl
    subst this
    exact .one (.osl0 hβ rfl)
  · have e' : (x == t) = false := by simpa using e
    rw [e'] at hx
    exact h1.1.env x tv hx
end
end Go.Proofs.YtbljhngekhgbbaaGreat
namespace Go.Proofs.YtbljhngekhgbbaaGreat
open Go.RowKit
set_option linter.unusedVariables false
set_option linter.unusedSectionVars false
set_option linter.unusedSimpArgs false
inductive LexR (P : Program) (N : Nat) (ops : Array Oper) : List Oper → SSt → SSt → Prop
  | nil {st : SSt} : LexR P N ops [] st st
  | cons {o : Oper} {rest : List Oper} {c : Option Ans} {st s1 sn : SSt} {ck : List Ask1} (h : stepF P N ops st o c = some (s1, ck)) (hk : ∀ q ∈ ck, q.ok P) (hr : LexR P N ops rest s1 sn) : LexR P N ops (o :: rest) st sn
section
variable {P : Program} {N : Nat} {C : Ctx} {st sn : SSt} {Q : Exit → SSt → Prop} {ops : Array Oper}
theorem LexR.lex : ∀ {rest : List Oper} {st sn : SSt}, LexR P N ops rest st sn → ∀ i, ∃ D cs, (∀ k v, (k, v) ∈ D → i ≤ k) ∧ lexF P N ops D rest i st = some (sn, cs) ∧ ∀ q ∈ cs, q.ok P := by
  intro rest st sn h
  induction h with
  | nil => exact fun i => ⟨[], [], fun k v h => by simp at h, rfl, fun q h => by simp at h⟩
  | @cons o rest c st s1 sn ck h hk _ ih =>
    intro i
    obtain ⟨C, cs, hC, hl, hcs⟩ := ih (i + 1)
    have hlk : ∀ (C' : List (Nat × Ans)), (∀ k v, (k, v) ∈ C' → i + 1 ≤ k) → C'.lookup i = none := by
      intro C'
      induction C' with
      | nil => intro _; rfl
      | cons x C' ihC =>
        intro hx
        obtain ⟨k, v⟩ := x
        rw [List.lookup_cons]
        have h1 := hx k v (by simp)
        have : (i == k) = false := by simp; omega
        rw [this]
        exact ihC fun k v h => hx k v (by simp [h])
    cases c with
    | none =>
      refine ⟨C, ck ++ cs, fun k v h => by have := hC k v h; omega, ?_, fun q hq => ?_⟩
      · simp only [lexF, hlk C hC, h, Option.bind_some, hl, Option.map_some]
      · rcases List.mem_append.1 hq with hq | hq
        · exact hk q hq
        · exact hcs q hq
    | some r =>
      refine ⟨(i, r) :: C, ck ++ cs, fun k v h => ?_, ?_, fun q hq => ?_⟩
      · rcases List.mem_cons.1 h with e | h
        · have := (Prod.mk.inj e).1; omega
        · have := hC k v h; omega
      · have hskip : ∀ (rest : List Oper) (j : Nat) (s : SSt), i < j → lexF P N ops ((i, r) :: C) rest j s = lexF P N ops C rest j s := by
          intro rest
          induction rest with
          | nil => intro j s _; rfl
          | cons o rest ihr =>
            intro j s hj
            have : ((i, r) :: C).lookup j = C.lookup j := by
              rw [List.lookup_cons]
              have : (j == i) = false := by simp; omega
              rw [this]
            simp only [lexF, this]
            congr 1
            funext q
            rw [ihr _ _ (by omega)]
        have hl0 : ((i, r) :: C).lookup i = some r := by rw [List.lookup_cons]; simp
        simp only [lexF, hl0, h, Option.bind_some, hskip rest (i + 1) s1 (by omega), hl, Option.map_some]
      · rcases List.mem_append.1 hq with hq | hq
        · exact hk q hq
        · exact hcs q hq
/-- step by step, to a state for which K -/
def LX (P : Program) (N : Nat) (ops : Array Oper) (K : SSt → Prop) (rest : List Oper) (st : SSt) : Prop := ∃ sn, LexR P N ops rest st sn ∧ K sn
theorem SW.reg {id : Nat} {ops : Array Oper} {l : List Oper} (hl : ops.toList = l) (e : LX P N ops (Q .normal) l st) : SW P N C (.region id ops false) Q st := by
  subst hl
  obtain ⟨sn, e, h⟩ := e
  obtain ⟨D, cs, _, hl, hcs⟩ := e.lex 0
  exact SW.region D hl hcs h
theorem LX.nil {K : SSt → Prop} (h : K st) : LX P N ops K [] st := ⟨st, .nil, h⟩
theorem LX.cons {K : SSt → Prop} {o : Oper} {rest : List Oper} {c : Option Ans} {st s1 : SSt} {ck : List Ask1} (h : stepF P N ops st o c = some (s1, ck)) (hk : ∀ q ∈ ck, q.ok P) (hr : LX P N ops K rest s1) : LX P N ops K (o :: rest) st :=
  let ⟨sn, e, k⟩ := hr; ⟨sn, .cons h hk e, k⟩
variable {env : List (Nat × TV)} {bx : Store} {n d : Nat} {rest : List Oper} {op : Op} {ty : TypeId} {K : SSt → Prop} {pos : String} {af : Array Edge}
/-- a value -/
theorem lv {tv : TV} (hv : sopW P ⟨env, bx, n⟩ ⟨some d, op, ty, pos, af, none⟩ = some tv) (hr : LX P N ops K rest ⟨(d, tv) :: env, bx, n⟩) (hd : decide (d < N) = true) : LX P N ops K (⟨some d, op, ty, pos, af, none⟩ :: rest) ⟨env, bx, n⟩ :=
  LX.cons (c := none) (s1 := ⟨(d, tv) :: env, bx, n⟩) (ck := []) (by unfold stepF; simp only [dstB, hd, if_true]; simp only [SSt.guard, hv]; rfl) (fun q h => by simp at h) hr
/-- memory -/
theorem lm {tv : TV} {bx' : Store} {n' : Nat} (hv : sopW P ⟨env, bx, n⟩ ⟨some d, op, ty, pos, af, none⟩ = none) (hm : sopM P ⟨env, bx, n⟩ ⟨some d, op, ty, pos, af, none⟩ = some (tv, bx', n')) (hr : LX P N ops K rest ⟨(d, tv) :: env, bx', n'⟩) (hd : decide (d < N) = true) :
    LX P N ops K (⟨some d, op, ty, pos, af, none⟩ :: rest) ⟨env, bx, n⟩ :=
  LX.cons (c := none) (s1 := ⟨(d, tv) :: env, bx', n'⟩) (ck := []) (by unfold stepF; simp only [dstB, hd, if_true]; simp only [SSt.guard, hv, hm]; rfl) (fun q h => by simp at h) hr
end
end Go.Proofs.YtbljhngekhgbbaaGreat
namespace Go.Proofs.YtbljhngekhgbbaaGreat
open Go.RowKit
set_option linter.unusedVariables false
set_option linter.unusedSectionVars false
set_option linter.unusedSimpArgs false
section
variable {P : Program} {N : Nat} {ty : TypeId} {pos : String} {af : Array Edge}
variable {xf : Bool} {dst : Option Nat} {gd : Option (Nat × Bool)} {x y z : Operand} {t yt : TypeId} {S : SSt}
theorem vmove {tv : TV} (h : S.eval x = some tv) : sopV P S ⟨dst, .move x, ty, pos, af, gd⟩ = some tv := h
theorem vassign {tv : TV} (h : S.eval x = some tv) : sopV P S ⟨dst, .assign x, ty, pos, af, gd⟩ = some tv := h
end
end Go.Proofs.YtbljhngekhgbbaaGreat
namespace Go.Proofs.YtbljhngekhgbbaaGreat
open Go.RowKit
set_option linter.unusedVariables false
set_option linter.unusedSectionVars false
set_option linter.unusedSimpArgs false
/-- what a call that was reckoned at the empty store does at each -/
def shiftS (n : Nat) (σ : Store) : Store := σ.map fun e => (n + e.1, e.2.ren (n + ·))
section
variable {P : Program} {w w' : World} {G : Addr → Prop} {H : Addr → Prop} {β : Ids} {σ : Store} {n : Nat}
mutual
theorem PV.ren_free {m : Nat → Nat} : ∀ {p : PV}, p.free = true → p.ren m = p
  | .lit _, _ => rfl
  | .sl _ _, _ => rfl
  | .ptr _ _, _ => rfl
  | .dat _ _, _ => rfl
  | .box _ _, h => by simp [PV.free] at h
  | .osl _ _ _, h => by simp [PV.free] at h
  | .elp _ _ _, h => by simp [PV.free] at h
  | .clo g f c, h => by
    simp only [PV.free, Bool.and_eq_true] at h
    rw [PV.ren, PV.rens_free h.1, PV.rens_free h.2]
theorem PV.rens_free {m : Nat → Nat} : ∀ {ps : List PV}, PV.frees ps = true → PV.rens m ps = ps
  | [], _ => rfl
  | x :: xs, h => by
    simp only [PV.frees, Bool.and_eq_true] at h
    rw [PV.rens, PV.ren_free h.1, PV.rens_free h.2]
end
mutual
theorem TV.ren_free {m : Nat → Nat} : ∀ {p : TV}, p.free = true → p.ren m = p
  | .one p, h => by rw [TV.ren, PV.ren_free (by simpa [TV.free] using h)]
  | .agg ps, h => by rw [TV.ren, PV.rens_free (by simpa [TV.free] using h)]
  | .tup ts, h => by rw [TV.ren, TV.rens_free (by simpa [TV.free] using h)]
  | .bad, _ => rfl
theorem TV.rens_free {m : Nat → Nat} : ∀ {ps : List TV}, TV.frees ps = true → TV.rens m ps = ps
  | [], _ => rfl
  | x :: xs, h => by
    simp only [TV.frees, Bool.and_eq_true] at h
    rw [TV.rens, TV.ren_free h.1, TV.rens_free h.2]
end
theorem callsTo_of_empty {f : FuncId} {ts : List TV} {r : TV} {σ' : Store} {n' : Nat} (h : CallsG P f [] 0 ts r σ' n') (ht : TV.frees ts = true) (hr : r.free = true) : CallsTo P f ts r := by
  intro σ n w H β args hM hargs
  have none0 : ∀ b, ¬ owned noIds [] b := fun b ⟨id, row, O, h1, _⟩ => by simp at h1
  have hM0 : MemI w (gOf H β σ) noIds [] 0 := ⟨fun _ _ => rfl, fun id row h => by simp at h, fun i j ri rj _ _ h => by simp at h, fun p hp => ⟨hM.new p hp, fun ho => by have := hM.lt ho; omega⟩, fun p hp => absurd hp (none0 _)⟩
  have ha : RepTs w (gOf (gOf H β σ) noIds []) noIds ts args := ⟨hargs.1, fun i t v h1 h2 => ((hargs.2 i t v h1 h2).other (TV.frees_get ht h1)).mono fun q u hq hg => ⟨hq, hg, none0 _⟩⟩
  refine (h w (gOf H β σ) noIds args hM0 ha).mono ?_
  rintro e w' ⟨v, β', rfl, hs, hv⟩
  have hx : Ext w w' := hs.ext.to_ext none0
  refine ⟨v, β, rfl, MStep.grow hM hx (Nat.le_refl _), (hv.other hr).mono fun q u hq hg => ⟨hq, hg.1⟩⟩
theorem lookup_shift {n : Nat} : ∀ {σ : Store} {i : Nat} {row : Row}, (shiftS n σ).lookup i = some row → ∃ j row1, σ.lookup j = some row1 ∧ i = n + j ∧ row = row1.ren (n + ·)
  | [], i, row, h => by simp [shiftS] at h
  | (k, r) :: σ, i, row, h => by
    unfold shiftS at h
    rw [List.map_cons, List.lookup_cons] at h
    by_cases e : i = n + k
    · subst e
      simp at h
      exact ⟨k, r, by rw [List.lookup_cons]; simp, rfl, h.symm⟩
    · have e' : (i == n + k) = false := by simpa using e
      simp only [e'] at h
      obtain ⟨j, row1, h1, h2, h3⟩ := lookup_shift (σ := σ) h
      refine ⟨j, row1, ?_, h2, h3⟩
      rw [List.lookup_cons]
      have : (j == k) = false := by
        simp only [beq_eq_false_iff_ne, ne_eq]
        intro hjk
        exact e (by omega)
      rw [this]
      exact h1
theorem lookup_app {σ τ : Store} {i : Nat} {row : Row} : (σ ++ τ).lookup i = some row → σ.lookup i = some row ∨ τ.lookup i = some row := by
  induction σ with
  | nil => exact .inr
  | cons x σ ih =>
    intro h
    rw [List.cons_append, List.lookup_cons] at h
    rw [List.lookup_cons]
    cases e : i == x.1 with
    | true => rw [e] at h; exact .inl h
    | false => rw [e] at h; exact ih h
theorem calls_shift {f : FuncId} {ts : List TV} {r : TV} {σ' : Store} {n' : Nat} (h : CallsG P f [] 0 ts r σ' n') (ht : TV.frees ts = true) (σ : Store) (n : Nat) : CallsG P f σ n ts (r.ren (n + ·)) (shiftS n σ' ++ σ) (n + n') := by
  have := CallsG.frame (σ := σ) (n := n) (σ2 := shiftS n σ' ++ σ) h (n + ·) (fun i hi => by omega) (fun i _ => by show n + i = _; omega) (fun i row hi => by simp at hi) (fun i j ri rj hi => by simp at hi) (fun i row hi => by simp at hi) (fun i row hi => by
    rcases lookup_app hi with hi | hi
    · obtain ⟨j, row1, h1, h2, h3⟩ := lookup_shift hi
      exact .inl ⟨j, row1, h1, h2, h3⟩
    · exact .inr ⟨hi, fun j row0 hj => by simp at hj⟩)
  rw [TV.rens_free ht] at this
  exact this
end
end Go.Proofs.YtbljhngekhgbbaaGreat
namespace Go.Proofs.YtbljhngekhgbbaaGreat
open Go.RowKit
set_option linter.unusedVariables false
set_option linter.unusedSectionVars false
set_option linter.unusedSimpArgs false
abbrev CallF := FuncId → List TV → Store → Nat → Option (TV × Store × Nat)
def itL (f : SSt → Option (Exit × SSt)) : Nat → SSt → Option (Exit × SSt)
  | 0, _ => none
  | n + 1, s => match f s with
    | some (.normal, s') => itL f n s'
    | r => r
/-- a call's answer: by F, at the empty store if its arguments lead to no row of the store -/
def evCall (F : CallF) (g : FuncId) (ts : List TV) (σ : Store) (n : Nat) : Option Ans := if TV.frees ts = true then (F g ts [] 0).map fun q => if q.1.free = true then .pure q.1 else .eff (q.1.ren (n + ·)) (shiftS n q.2.1 ++ σ) (n + q.2.2)
  else (F g ts σ n).map fun q => .eff q.1 q.2.1 q.2.2
def evStepD (P : Program) (F : CallF) (N : Nat) (ops : Array Oper) (st : SSt) (o : Oper) : Option (SSt × Option Ans) := match st.guard ops o, st.callee o with
  | some true, some (g, ts) => if enterB P g = true then (evCall F g ts st.boxes st.next).bind fun q => (stepF P N ops st o (some q)).map fun r => (r.1, some q) else (match stepF P N ops st o none with
    | some r => some (r.1, none)
    | none => (stepF P N ops st o (some .mem)).map fun r => (r.1, some .mem))
  | _, _ => match stepF P N ops st o none with
    | some r => some (r.1, none)
    | none => (stepF P N ops st o (some .mem)).map fun r => (r.1, some .mem)
def evOps (P : Program) (F : CallF) (N : Nat) (ops : Array Oper) : List Oper → SSt → Option SSt
  | [], st => some st
  | o :: rest, st => (evStepD P F N ops st o).bind fun s => evOps P F N ops rest s.1
section
variable {P : Program} {F : CallF} {N n : Nat} {C : Ctx} {ops : Array Oper}
/-- what F says of calls is so -/
def FOk (P : Program) (F : CallF) : Prop := ∀ f ts σ m r σ' m', F f ts σ m = some (r, σ', m') → CallsG P f σ m ts r σ' m'
def ask (g : FuncId) (ts : List TV) (σ : Store) (n : Nat) : Ans → Ask1
  | .pure r => .pure g ts r
  | .eff r σ' n' => .eff g σ n ts r σ' n'
  | .mem => .pure g ts .bad
  | .lst => .pure g ts .bad
theorem evCall_ok (hF : FOk P F) {g : FuncId} {ts : List TV} {σ : Store} {n : Nat} {q : Ans} (h : evCall F g ts σ n = some q) : (ask g ts σ n q).ok P := by
  unfold evCall at h
  split at h
  · rename_i hfr
    obtain ⟨⟨r, σ', n'⟩, h1, rfl⟩ := Option.map_eq_some_iff.1 h
    have hc := hF _ _ _ _ _ _ _ h1
    dsimp only
    split
    · rename_i hr; exact callsTo_of_empty hc hfr hr
    · exact calls_shift hc hfr σ n
  · obtain ⟨⟨r, σ', n'⟩, h1, rfl⟩ := Option.map_eq_some_iff.1 h
    exact hF _ _ _ _ _ _ _ h1
theorem evCall_mem (F : CallF) (g : FuncId) (ts : List TV) (σ : Store) (n : Nat) : evCall F g ts σ n ≠ some .mem := by
  intro h
  unfold evCall at h
  split at h
  · obtain ⟨q, _, e⟩ := Option.map_eq_some_iff.1 h
    split at e <;> cases e
  · obtain ⟨q, _, e⟩ := Option.map_eq_some_iff.1 h
    cases e
theorem evCall_lst (F : CallF) (g : FuncId) (ts : List TV) (σ : Store) (n : Nat) : evCall F g ts σ n ≠ some .lst := by
  intro h
  unfold evCall at h
  split at h
  · obtain ⟨q, _, e⟩ := Option.map_eq_some_iff.1 h
    split at e <;> cases e
  · obtain ⟨q, _, e⟩ := Option.map_eq_some_iff.1 h
    cases e
theorem evStepD_ok (hF : FOk P F) {st : SSt} {o : Oper} {s : SSt × Option Ans} (h1 : evStepD P F N ops st o = some s) : ∃ ck, stepF P N ops st o s.2 = some (s.1, ck) ∧ ∀ q ∈ ck, q.ok P := by
  have plain : (match stepF P N ops st o none with
    | some r => some (r.1, none)
    | none => (stepF P N ops st o (some .mem)).map fun r => (r.1, some .mem)) = some s → ∃ ck, stepF P N ops st o s.2 = some (s.1, ck) ∧ ∀ q ∈ ck, q.ok P := by
    intro h
    have nil : ∀ {c : Option Ans} {s' : SSt} {ck : List Ask1}, (c = none ∨ c = some .mem) → stepF P N ops st o c = some (s', ck) → ck = [] := by
      intro c s' ck hc hs
      unfold stepF at hs
      split at hs
      · split at hs
        · exact (Prod.mk.inj (Option.some.inj hs)).2.symm
        · rcases hc with rfl | rfl
          · simp only at hs
            split at hs
            · exact (Prod.mk.inj (Option.some.inj hs)).2.symm
            · split at hs
              · exact (Prod.mk.inj (Option.some.inj hs)).2.symm
              · split at hs
                · exact (Prod.mk.inj (Option.some.inj hs)).2.symm
                · cases hs
          · simp only at hs
            split at hs
            · cases hs
            · obtain ⟨q, _, e⟩ := Option.map_eq_some_iff.1 hs
              exact (Prod.mk.inj e).2.symm
        · cases hs
      · cases hs
    split at h
    · rename_i r hs
      obtain rfl := Option.some.inj h
      refine ⟨r.2, hs, fun q hq => ?_⟩
      rw [nil (.inl rfl) hs] at hq
      simp at hq
    · obtain ⟨r, hs, rfl⟩ := Option.map_eq_some_iff.1 h
      refine ⟨r.2, hs, fun q hq => ?_⟩
      rw [nil (.inr rfl) hs] at hq
      simp at hq
  unfold evStepD at h1
  split at h1
  · rename_i g ts hg hc
    split at h1
    rotate_left
    · exact plain h1
    rename_i hen
    obtain ⟨q, hq, h1⟩ := Option.bind_eq_some_iff.1 h1
    obtain ⟨⟨s', ck⟩, hs, rfl⟩ := Option.map_eq_some_iff.1 h1
    have hF' := evCall_ok hF hq
    refine ⟨ck, hs, fun a ha => ?_⟩
    have : ck = [ask g ts st.boxes st.next q] := by
      unfold stepF at hs
      rw [hg, hc] at hs
      split at hs
      · cases q with
        | mem => exact absurd hq (evCall_mem F g ts st.boxes st.next)
        | lst => exact absurd hq (evCall_lst F g ts st.boxes st.next)
        | pure r =>
          dsimp only at hs
          rw [if_pos hen] at hs
          exact (Prod.mk.inj (Option.some.inj hs)).2.symm
        | eff r σ' n' =>
          dsimp only at hs
          rw [if_pos hen] at hs
          exact (Prod.mk.inj (Option.some.inj hs)).2.symm
      · cases hs
    rw [this] at ha
    simp at ha
    subst ha
    exact hF'
  · exact plain h1
theorem evOps_ok (hF : FOk P F) : ∀ {rest : List Oper} {st sn : SSt}, evOps P F N ops rest st = some sn → LexR P N ops rest st sn
  | [], st, sn, e => by
    simp only [evOps, Option.some.injEq] at e
    subst e
    exact .nil
  | o :: rest, st, sn, e => by
    simp only [evOps, Option.bind_eq_some_iff] at e
    obtain ⟨s1, h1, h2⟩ := e
    obtain ⟨ck, c1, c2⟩ := evStepD_ok hF h1
    exact .cons c1 c2 (evOps_ok hF h2)
end
end Go.Proofs.YtbljhngekhgbbaaGreat
