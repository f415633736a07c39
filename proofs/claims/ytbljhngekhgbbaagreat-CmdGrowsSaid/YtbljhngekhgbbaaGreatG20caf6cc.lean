/- Texts of the proofs of CmdEnds, CmdFirst, CmdGrows, CmdPlays, merged (AmKx, AmKd). -/
import Derived.Laws.StructEq
import Derived.Test.YtbljhngekhgbbaaGreatGb3b707fa
import Derived.Test.YtbljhngekhgbbaaGreatGb43ee308
import Derived.Test.YtbljhngekhgbbaaGreatG9c20b58a
import Derived.Test.YtbljhngekhgbbaaGreatG6e0496cb
set_option linter.unusedSimpArgs false
set_option linter.unusedVariables false
namespace Go.Proofs.YtbljhngekhgbbaaGreat
open Go.RowKit
set_option linter.unusedVariables false
set_option linter.unusedSectionVars false
set_option linter.unusedSimpArgs false
/-- are two alike, field by field? -/
def flatEq (P : Program) : List Field → List PV → List PV → Option Bool
  | [], _, _ => some true
  | f :: fs, xs, ys => if f.name = "_" then none else match P.underlying f.type, xs[f.offset]?, ys[f.offset]? with
    | some (.int _), some (.lit (.int k a)), some (.lit (.int k' b)) => if k = k' then (flatEq P fs xs ys).map fun r => (a == b) && r else none
    | some .string, some (.lit (.string a)), some (.lit (.string b)) => (flatEq P fs xs ys).map fun r => (a.toList == b.toList) && r
    | some .bool, some (.lit (.bool a)), some (.lit (.bool b)) => (flatEq P fs xs ys).map fun r => (a == b) && r
    | _, _, _ => none
def eqD (P : Program) (t : TypeId) (xs ys : List PV) : Option Bool := match P.underlying t with
  | some (.struct fs) => if P.stoodInHeld t = false ∧ P.eqGuardType P.depth t = false then flatEq P fs.toList xs ys else none
  | _ => none
def lenD (l : Nat) : PV := .lit (.int .i64 (l : Int))
/-- operations at lists as data, and at stamps: what must hold, what comes of them -/
def sopD (P : Program) (st : SSt) (o : Oper) : Option (Bool × TV) := match o.op with
  | .call { callee := .builtin .len, args := args, argTypes := ts } => match args.toList, ts.toList with
    | [x], [t] => match st.eval x with
      | some (.one (.dat d l)) => some ((elemD P t).isSome, .one (lenD l.length))
      | _ => none
    | _, _ => none
  | .indexAddr t x i => match st.eval x with
    | some (.one (.dat d l)) => match st.val i with
      | some (.int _ z) => some (((elemD P t).bind fun e => sizeP P e) == some d.w && (decide (0 ≤ z) && Nat.blt z.toNat l.length), .one (.ptr (encEl d (l.getD z.toNat (dfl d))) 0))
      | _ => none
    | _ => none
  | .binOp .eql t x y _ => match st.eval x, st.eval y with
    | some (.agg xs), some (.agg ys) => (eqD P t xs ys).map fun b => (true, .one (.lit (.bool b)))
    | _, _ => none
  | .binOp .neq t x y _ => match st.eval x, st.eval y with
    | some (.agg xs), some (.agg ys) => (eqD P t xs ys).map fun b => (true, .one (.lit (.bool (!b))))
    | _, _ => none
  | .slice t x lo hi mx => match st.eval x with
    | some (.one (.dat d l)) => match mx, optV st lo, optV st hi with
      | none, some a, some b => some ((((elemD P t).bind fun e => sizeP P e) == some d.w) && (decide (0 ≤ a.getD 0) && (decide (0 ≤ b.getD l.length) && (Nat.ble (a.getD 0).toNat (b.getD l.length).toNat && Nat.ble (b.getD l.length).toNat l.length))), .one (.dat d ((l.take (b.getD l.length).toNat).drop (a.getD 0).toNat)))
      | _, _, _ => none
    | _ => none
  | _ => none
section
variable {ds : List Deferred} {P : Program} {N n : Nat} {W w w' : World} {H : Addr → Prop} {β : Ids} {X : Nat → Prop} {st : SSt} {a : Act} {G : Addr → Prop} {σ : Store}
theorem eqFields_ok (d : Nat) : ∀ {fs : List Field} {xs ys : List PV} {us vs : Array Value} {b : Bool}, RepL w G β xs us.toList → RepL w G β ys vs.toList → flatEq P fs xs ys = some b → (Op.eqFields (d + 1) us vs fs).run P w = .ok b w
  | [], xs, ys, us, vs, b, _, _, e => by simp [flatEq] at e; subst e; rfl
  | f :: fs, xs, ys, us, vs, b, hx, hy, e => by
    simp only [flatEq] at e
    split at e
    · cases e
    rename_i hn
    have fin : ∀ (u v : Value) (c : Bool), us[f.offset]? = some u → vs[f.offset]? = some v → (Op.equalIn (d + 1) f.type u v).run P w = .ok c w → ((part f.type us f.offset).run P w = .ok u w) → ((part f.type vs f.offset).run P w = .ok v w) → (flatEq P fs xs ys).map (fun r => c && r) = some b → (Op.eqFields (d + 1) us vs (f :: fs)).run P w = .ok b w := by
      intro u v c hu hv hc p1 p2 hb
      obtain ⟨r, hr, rfl⟩ := Option.map_eq_some_iff.1 hb
      have ih := eqFields_ok d hx hy hr
      unfold Op.eqFields
      rw [if_pos hn, Sem.run_bind, p1, Result.andThen_ok, Sem.run_bind, p2, Result.andThen_ok, Sem.run_bind, hc, Result.andThen_ok]
      cases c
      · rfl
      · simpa using ih
    have get : ∀ {ps : List PV} {ws : Array Value} {v : Value}, RepL w G β ps ws.toList → ps[f.offset]? = some (.lit v) → ws[f.offset]? = some v := by
      intro ps ws v h1 h2
      obtain ⟨u, hu, hr⟩ := h1.get h2
      have := hr.val (u := v) rfl
      subst this
      rw [← Array.getElem?_toList]; exact hu
    have prt : ∀ {D : TypeDesc} {ws : Array Value} {v : Value}, P.underlying f.type = some D → aggD D = false → ws[f.offset]? = some v → (part f.type ws f.offset).run P w = .ok v w := by
      intro D ws v h1 h2 h3
      unfold part
      rw [Sem.run_bind, run_agg h1, Result.andThen_ok, h2]
      simp [h3]
    split at e
    · rename_i k0 k x k' y h1 h2 h3
      split at e
      rotate_left
      · cases e
      rename_i hkk
      subst hkk
      exact fin _ _ _ (get hx h2) (get hy h3) (by simp [Op.equalIn, run_underlying h1]) (prt h1 rfl (get hx h2)) (prt h1 rfl (get hy h3)) e
    · rename_i x y h1 h2 h3
      exact fin _ _ _ (get hx h2) (get hy h3) (run_equalIn_string w d f.type x y h1) (prt h1 rfl (get hx h2)) (prt h1 rfl (get hy h3)) e
    · rename_i x y h1 h2 h3
      exact fin _ _ _ (get hx h2) (get hy h3) (run_equalIn_bool' w d f.type x y h1) (prt h1 rfl (get hx h2)) (prt h1 rfl (get hy h3)) e
    · cases e
theorem RepT.dat_ {t : Ty} {l : List t.El} {v : Value} (h : RepT w G β (.one (.dat t l)) v) : RepT w G β (.one (.sl false (encs t l))) v := by
  cases h with
  | one h => cases h with | dat hn he h => rw [he]; exact .one h
theorem RepT.dat_len {t : Ty} {l : List t.El} {v : Value} (h : RepT w G β (.one (.dat t l)) v) : l.length ≤ maxLen := by
  cases h with
  | one h => cases h with | dat hn he h => exact hn
theorem eval_dat {x : Operand} {d : Ty} {l : List d.El} (h : st.eval x = some (.one (.dat d l))) : ∃ t0, x = .tmp t0 := by
  cases x with
  | tmp t0 => exact ⟨t0, rfl⟩
  | const v =>
    exfalso
    have h1 : ofVal v = some (.one (.dat d l)) := h
    unfold ofVal at h1
    split at h1
    · split at h1 <;> simp at h1
    · split at h1
      · simp only [Option.some.injEq, TV.one.injEq] at h1
        unfold ofCell at h1
        split at h1 <;> cases h1
      · cases h1
  | func f => simp [SSt.eval] at h
  | global g => simp [SSt.eval] at h
/-- a list as data, told as rows -/
theorem Inv.expo (h : Inv ds N W X H β st a w) {t0 : Nat} {d : Ty} {l : List d.El} (e : st.eval (.tmp t0) = some (.one (.dat d l))) : Inv ds N W X H β { st with env := (t0, .one (.sl false (encs d l))) :: st.env } a w := by
  refine ⟨h.defers, h.size, h.ext, h.mem, h.own, fun t tv ht => ?_⟩
  unfold SSt.get at ht
  rw [List.lookup_cons] at ht
  by_cases he : t = t0
  · subst he
    simp at ht
    subst ht
    obtain ⟨v, hv, hr⟩ := h.env t _ e
    exact ⟨v, hv, hr.dat_⟩
  · have he' : (t == t0) = false := by simpa using he
    rw [he'] at ht
    exact h.env t tv ht
theorem eval_expo {t0 : Nat} {tv : TV} {y : Operand} (hy : st.val y ≠ none) (h0 : TV.val? tv = none → True) {d : Ty} {l : List d.El} (e : st.eval (.tmp t0) = some (.one (.dat d l))) : ({ st with env := (t0, tv) :: st.env } : SSt).val y = st.val y := by
  cases y with
  | tmp t =>
    by_cases he : t = t0
    · subst he
      exfalso
      apply hy
      unfold SSt.val
      rw [e]
      rfl
    · have he' : (t == t0) = false := by simpa using he
      show (List.lookup t ((t0, tv) :: st.env)).bind TV.val? = (List.lookup t st.env).bind TV.val?
      rw [List.lookup_cons, he']
  | _ => rfl
set_option maxHeartbeats 400000 in
theorem sopD_run {o : Oper} {b : Bool} {tv : TV} (h : Inv ds N W X H β st a w) (e : sopD P st o = some (b, tv)) (hb : b = true) : ∃ v, (execOp a.eval o).run P w = .ok (.value v) w ∧ RepT w (st.G H β) β tv v := by
  subst hb
  obtain ⟨dst, op, ty, pos, after, guard⟩ := o
  unfold sopD at e
  dsimp only at e
  split at e
  · rename_i args ts
    split at e
    rotate_left
    · cases e
    rename_i x t h1 h2
    have ea : args = #[x] := Array.ext' h1
    have et : ts = #[t] := Array.ext' h2
    subst ea
    subst et
    split at e
    rotate_left
    · cases e
    rename_i d l hx
    simp only [Option.some.injEq, Prod.mk.injEq] at e
    obtain ⟨he, rfl⟩ := e
    obtain ⟨el, hel⟩ := Option.isSome_iff_exists.1 he
    obtain ⟨t0, rfl⟩ := eval_dat hx
    have h' := h.expo hx
    have hev : SSt.eval { st with env := (t0, .one (.sl false (encs d l))) :: st.env } (.tmp t0) = some (.one (.sl false (encs d l))) := by
      show List.lookup t0 _ = _
      rw [List.lookup_cons]; simp
    have hs : sopV P { st with env := (t0, .one (.sl false (encs d l))) :: st.env } ⟨dst, .call { callee := .builtin .len, args := #[.tmp t0], argTypes := #[t] }, ty, pos, after, guard⟩ = some (.one (.lit (.int .i64 ((encs d l).length : Nat)))) := by
      simp [sopV, hev, elemD_ hel]
    have := sopV_run h' hs
    rw [show (encs d l).length = l.length by unfold encs; rw [List.length_map]] at this
    exact this
  · rename_i t x i
    split at e
    rotate_left
    · cases e
    rename_i d l hx
    split at e
    rotate_left
    · cases e
    rename_i kk z hi
    simp only [Option.some.injEq, Prod.mk.injEq, Bool.and_eq_true, beq_iff_eq, decide_eq_true_eq] at e
    obtain ⟨⟨he, hz, hlt⟩, rfl⟩ := e
    have hlt' : z.toNat < l.length := by simpa using hlt
    obtain ⟨el, hel, hsz⟩ := Option.bind_eq_some_iff.1 he
    obtain ⟨t0, rfl⟩ := eval_dat hx
    have h' := h.expo hx
    have hev : SSt.eval { st with env := (t0, .one (.sl false (encs d l))) :: st.env } (.tmp t0) = some (.one (.sl false (encs d l))) := by
      show List.lookup t0 _ = _
      rw [List.lookup_cons]; simp
    have hiv := eval_expo (tv := .one (.sl false (encs d l))) (y := i) (by rw [hi]; simp) (fun _ => trivial) hx
    have hrow : (encs d l)[z.toNat]? = some (encEl d (l.getD z.toNat (dfl d))) := by
      unfold encs
      rw [List.getElem?_map, List.getElem?_eq_getElem hlt', List.getD_eq_getElem?_getD, List.getElem?_eq_getElem hlt']
      rfl
    have hs : sopV P { st with env := (t0, .one (.sl false (encs d l))) :: st.env } ⟨dst, .indexAddr t (.tmp t0) i, ty, pos, after, guard⟩ = some (.one (.ptr (encEl d (l.getD z.toNat (dfl d))) 0)) := by
      have hn : SSt.nat? { st with env := (t0, .one (.sl false (encs d l))) :: st.env } i = some z.toNat := by
        unfold SSt.nat?
        rw [hiv, hi]
        simp [hz]
      have ha : arrD P t = none := by simp [arrD, elemD_ hel]
      simp only [sopV, ha, hel, hsz, hn, hev, Option.bind_some, hrow, enc_len, if_true]
    have := sopV_run h' hs
    exact this
  · rename_i t x y yt
    split at e
    rotate_left
    · cases e
    rename_i xs ys hx hy
    obtain ⟨c, hc, e⟩ := Option.map_eq_some_iff.1 e
    simp only [Prod.mk.injEq, true_and] at e
    subst e
    unfold eqD at hc
    split at hc
    rotate_left
    · cases hc
    rename_i fs hu
    split at hc
    rotate_left
    · cases hc
    rename_i hcc
    have rx := h.eval hx
    have ry := h.eval hy
    unfold execOp
    dsimp only
    generalize a.eval x = u at rx ⊢
    generalize a.eval y = v at ry ⊢
    cases rx with
    | agg rx =>
    cases ry with
    | agg ry =>
    rename_i us vs
    refine ⟨.bool c, ?_, .one (.lit rfl)⟩
    show (do pure (Next.value (← (do eqGuard .eql t x y (.agg us) (.agg vs); binOp .eql t (.agg us) (.agg vs)))) : Sem Next).run P w = _
    have hfs : P.fieldsOf t = fs := by simp [Program.fieldsOf, hu]
    rw [Sem.run_bind, Sem.run_bind, run_eqGuard_agg w .eql t x y us vs hcc.2, Result.andThen_ok, run_eql_struct, run_equalIn_struct w 9999 t us vs (by rw [hfs]; exact hu) hcc.1, hfs, eqFields_ok 9998 rx ry hc]
    rfl
  · rename_i t x y yt
    split at e
    rotate_left
    · cases e
    rename_i xs ys hx hy
    obtain ⟨c, hc, e⟩ := Option.map_eq_some_iff.1 e
    simp only [Prod.mk.injEq, true_and] at e
    subst e
    unfold eqD at hc
    split at hc
    rotate_left
    · cases hc
    rename_i fs hu
    split at hc
    rotate_left
    · cases hc
    rename_i hcc
    have rx := h.eval hx
    have ry := h.eval hy
    unfold execOp
    dsimp only
    generalize a.eval x = u at rx ⊢
    generalize a.eval y = v at ry ⊢
    cases rx with
    | agg rx =>
    cases ry with
    | agg ry =>
    rename_i us vs
    refine ⟨.bool (!c), ?_, .one (.lit rfl)⟩
    show (do pure (Next.value (← (do eqGuard .neq t x y (.agg us) (.agg vs); binOp .neq t (.agg us) (.agg vs)))) : Sem Next).run P w = _
    have hfs : P.fieldsOf t = fs := by simp [Program.fieldsOf, hu]
    rw [Sem.run_bind, Sem.run_bind, run_eqGuard_agg w .neq t x y us vs hcc.2, Result.andThen_ok, run_neq_struct, run_equalIn_struct w 9999 t us vs (by rw [hfs]; exact hu) hcc.1, hfs, eqFields_ok 9998 rx ry hc]
    rfl
  · rename_i t x lo hi mx
    split at e
    rotate_left
    · cases e
    rename_i d l hx
    split at e
    rotate_left
    · cases e
    rename_i A B hA hB
    simp only [Option.some.injEq, Prod.mk.injEq, Bool.and_eq_true, beq_iff_eq, decide_eq_true_eq] at e
    obtain ⟨⟨he, z1, z2, k1, k2⟩, rfl⟩ := e
    have k1 := Nat.le_of_ble_eq_true k1
    have k2 := Nat.le_of_ble_eq_true k2
    obtain ⟨el, hel, hsz⟩ := Option.bind_eq_some_iff.1 he
    obtain ⟨t0, rfl⟩ := eval_dat hx
    have h' := h.expo hx
    have hlen : (encs d l).length = l.length := by unfold encs; rw [List.length_map]
    have hev : SSt.eval { st with env := (t0, .one (.sl false (encs d l))) :: st.env } (.tmp t0) = some (.one (.sl false (encs d l))) := by
      show List.lookup t0 _ = _
      rw [List.lookup_cons]; simp
    have hopt : ∀ (y : Option Operand) (Y : Option Int) (D : Nat), optV st y = some Y → 0 ≤ Y.getD D → SSt.nat?? { st with env := (t0, .one (.sl false (encs d l))) :: st.env } D y = some (Y.getD D).toNat := by
      intro y Y D hy hpos
      cases y with
      | none => simp [optV] at hy; subst hy; simp [SSt.nat??]
      | some y =>
        unfold optV at hy
        dsimp only at hy
        split at hy
        · rename_i k' z hz
          obtain rfl := Option.some.inj hy
          have := eval_expo (tv := .one (.sl false (encs d l))) (y := y) (by rw [hz]; simp) (fun _ => trivial) hx
          show SSt.nat? _ y = _
          unfold SSt.nat?
          rw [this, hz]
          simp at hpos ⊢
          exact hpos
        · cases hy
    have hs : sopV P { st with env := (t0, .one (.sl false (encs d l))) :: st.env } ⟨dst, .slice t (.tmp t0) lo hi none, ty, pos, after, guard⟩ = cutSl false (encs d l) (A.getD 0).toNat (B.getD l.length).toNat none := by
      have e1 := hopt lo A 0 hA z1
      have e2 := hopt hi B (encs d l).length hB (by rw [hlen]; exact z2)
      have e3 : (encs d l).all (·.length == d.w) = true := List.all_eq_true.2 fun r hr => by simpa using encs_all d l r hr
      simp only [sopV]
      have e1' : SSt.nat?? { st with env := (t0, .one (.sl false (encs d l))) :: st.env } 0 lo = some (A.getD 0).toNat := e1
      rw [e1', Option.bind_some, hev]
      dsimp only
      rw [hel, Option.bind_some, hsz, Option.bind_some, e2, Option.bind_some, if_pos e3, hlen]
    have hcut : cutSl false (encs d l) (A.getD 0).toNat (B.getD l.length).toNat none = some (.one (.sl false (encs d ((l.take (B.getD l.length).toNat).drop (A.getD 0).toNat)))) := by
      unfold cutSl
      rw [hlen]
      dsimp only
      rw [if_pos ⟨k1, k2⟩]
      unfold encs
      rw [List.map_drop, List.map_take]
      rfl
    obtain ⟨v, hv, hr⟩ := sopV_run h' (hs.trans hcut)
    refine ⟨v, hv, ?_⟩
    cases hr with
    | one hr =>
      refine .one (.dat ?_ rfl hr)
      have := (h.eval hx).dat_len
      rw [List.length_drop, List.length_take]
      omega
  · cases e
/-- a value -/
def sopW1 (P : Program) (st : SSt) (o : Oper) : Option TV := match sopD P st o with
  | some (b, tv) => if b = true then some tv else none
  | none => sopW0 P st o
theorem sopW1_run {o : Oper} {tv : TV} (h : Inv ds N W X H β st a w) (e : sopW1 P st o = some tv) : ∃ v, (execOp a.eval o).run P w = .ok (.value v) w ∧ RepT w (st.G H β) β tv v := by
  unfold sopW1 at e
  split at e
  · rename_i b tv' he
    split at e
    · rename_i hb
      obtain rfl := Option.some.inj e
      exact sopD_run h he hb
    · cases e
  · exact sopW0_run h e
theorem sopW1_D {o : Oper} {b : Bool} {tv : TV} (h : sopD P st o = some (b, tv)) (hb : b = true) : sopW1 P st o = some tv := by unfold sopW1; rw [h]; simp [hb]
theorem sopW1_V {o : Oper} {tv : TV} (hd : sopD P st o = none) (h : sopV P st o = some tv) : sopW1 P st o = some tv := by unfold sopW1; rw [hd]; unfold sopW0; rw [h]
end
end Go.Proofs.YtbljhngekhgbbaaGreat
namespace Go.Proofs.YtbljhngekhgbbaaGreat
open Go.RowKit
set_option linter.unusedVariables false
set_option linter.unusedSectionVars false
set_option linter.unusedSimpArgs false
def PV.Leq (p q : PV) : Prop := ∀ (w : World) (G : Addr → Prop) (β : Ids) (v : Value), RepP w G β p v → RepP w G β q v
def TV.Leq (p q : TV) : Prop := ∀ (w : World) (G : Addr → Prop) (β : Ids) (v : Value), RepT w G β p v → RepT w G β q v
def LeqL : List PV → List PV → Prop
  | [], [] => True
  | p :: ps, q :: qs => p.Leq q ∧ LeqL ps qs
  | _, _ => False
def LeqT : List TV → List TV → Prop
  | [], [] => True
  | p :: ps, q :: qs => p.Leq q ∧ LeqT ps qs
  | _, _ => False
theorem PV.Leq.rfl {p : PV} : p.Leq p := fun _ _ _ _ h => h
theorem TV.Leq.rfl {p : TV} : p.Leq p := fun _ _ _ _ h => h
theorem LeqL.rep {w : World} {G : Addr → Prop} {β : Ids} : ∀ {ps qs : List PV} {us : List Value}, LeqL ps qs → RepL w G β ps us → RepL w G β qs us
  | [], [], us, _, h => h
  | p :: ps, q :: qs, [], _, h => by have := h.1; simp at this
  | p :: ps, q :: qs, u :: us, hl, h => by
    obtain ⟨h1, h2⟩ := RepL.cons_.1 h
    exact RepL.cons_.2 ⟨hl.1 _ _ _ _ h1, hl.2.rep h2⟩
  | [], q :: qs, us, hl, h => by cases hl
  | p :: ps, [], us, hl, h => by cases hl
theorem TV.Leq.agg {ps qs : List PV} (h : LeqL ps qs) : (TV.agg ps).Leq (.agg qs) := fun w G β v hr => by
  cases hr with
  | agg hr => exact .agg (h.rep hr)
theorem TV.Leq.one {p q : PV} (h : p.Leq q) : (TV.one p).Leq (.one q) := fun w G β v hr => by
  cases hr with
  | one hr => exact .one (h _ _ _ _ hr)
def dl (t : Ty) : PV → Option (List t.El)
  | .dat t' l => if h : t' = t then some (h ▸ l) else none
  | .sl _ [] => some []
  | _ => none
theorem dl_leq {t : Ty} {p : PV} {l : List t.El} (h : dl t p = some l) : p.Leq (.dat t l) := by
  unfold dl at h
  split at h
  · split at h
    · rename_i hh
      subst hh
      obtain rfl := Option.some.inj h
      exact .rfl
    · cases h
  · obtain rfl := Option.some.inj h
    intro w G β v hr
    refine .dat (rows := []) (Nat.zero_le _) rfl ?_
    cases hr with
    | sl0 h1 h2 => exact .sl0 (fun h => by cases h) h2
    | sl h hx hk hl hc hr => exact .sl h (fun h => by cases h) hk hl hc hr
  · cases h
def dI : PV → Option Int
  | .lit (.int .i64 n) => some n
  | _ => none
theorem dI_leq {p : PV} {n : Int} (h : dI p = some n) : p.Leq (pI n) := by
  unfold dI at h
  split at h
  · obtain rfl := Option.some.inj h; exact .rfl
  · cases h
def dN : PV → Option Int
  | .lit (.int .u64 n) => some n
  | _ => none
theorem dN_leq {p : PV} {n : Int} (h : dN p = some n) : p.Leq (pN n) := by
  unfold dN at h
  split at h
  · obtain rfl := Option.some.inj h; exact .rfl
  · cases h
def dB : PV → Option Bool
  | .lit (.bool n) => some n
  | _ => none
theorem dB_leq {p : PV} {n : Bool} (h : dB p = some n) : p.Leq (pB n) := by
  unfold dB at h
  split at h
  · obtain rfl := Option.some.inj h; exact .rfl
  · cases h
def dT : PV → Option ByteArray
  | .lit (.string n) => some n
  | _ => none
theorem dT_leq {p : PV} {n : ByteArray} (h : dT p = some n) : p.Leq (pT n) := by
  unfold dT at h
  split at h
  · obtain rfl := Option.some.inj h; exact .rfl
  · cases h
def dSt : List PV → Option MStamp
  | [a, b] => (dI a).bind fun a => (dI b).map fun b => ⟨a, b⟩
  | _ => none
def encSt (s : MStamp) : List PV := [pI s.time, pI s.node]
theorem dSt_leq {ps : List PV} {s : MStamp} (h : dSt ps = some s) : LeqL ps (encSt s) := by
  unfold dSt at h
  split at h
  · obtain ⟨a, ha, h⟩ := Option.bind_eq_some_iff.1 h
    obtain ⟨b, hb, rfl⟩ := Option.map_eq_some_iff.1 h
    exact ⟨dI_leq ha, dI_leq hb, trivial⟩
  · cases h
def dVal : List PV → Option MVal
  | [a, b, c, d] => (dB a).bind fun a => (dI b).bind fun b => (dI c).bind fun c => (dl .dep d).map fun d => ⟨a, ⟨b, c⟩, d⟩
  | _ => none
theorem dVal_leq {ps : List PV} {s : MVal} (h : dVal ps = some s) : LeqL ps (encVal s) := by
  unfold dVal at h
  split at h
  · obtain ⟨a, ha, h⟩ := Option.bind_eq_some_iff.1 h
    obtain ⟨b, hb, h⟩ := Option.bind_eq_some_iff.1 h
    obtain ⟨c, hc, h⟩ := Option.bind_eq_some_iff.1 h
    obtain ⟨d, hd, rfl⟩ := Option.map_eq_some_iff.1 h
    exact ⟨dB_leq ha, dI_leq hb, dI_leq hc, dl_leq hd, trivial⟩
  · cases h
def encOp (o : MOp) : List PV := encEl .op o
def dOp : List PV → Option MOp
  | [a, b, c, d] => (dI a).bind fun a => (dT b).bind fun b => (dT c).bind fun c => (dN d).map fun d => ⟨a, b, c, d⟩
  | _ => none
theorem dOp_leq {ps : List PV} {s : MOp} (h : dOp ps = some s) : LeqL ps (encOp s) := by
  unfold dOp at h
  split at h
  · obtain ⟨a, ha, h⟩ := Option.bind_eq_some_iff.1 h
    obtain ⟨b, hb, h⟩ := Option.bind_eq_some_iff.1 h
    obtain ⟨c, hc, h⟩ := Option.bind_eq_some_iff.1 h
    obtain ⟨d, hd, rfl⟩ := Option.map_eq_some_iff.1 h
    exact ⟨dI_leq ha, dT_leq hb, dT_leq hc, dN_leq hd, trivial⟩
  · cases h
def encWr (o : MWrite) : List PV := encEl .write o
def dWr : List PV → Option MWrite
  | [a, b, c] => (dT a).bind fun a => (dN b).bind fun b => (dB c).map fun c => ⟨a, b, c⟩
  | _ => none
theorem dWr_leq {ps : List PV} {s : MWrite} (h : dWr ps = some s) : LeqL ps (encWr s) := by
  unfold dWr at h
  split at h
  · obtain ⟨a, ha, h⟩ := Option.bind_eq_some_iff.1 h
    obtain ⟨b, hb, h⟩ := Option.bind_eq_some_iff.1 h
    obtain ⟨c, hc, rfl⟩ := Option.map_eq_some_iff.1 h
    exact ⟨dT_leq ha, dN_leq hb, dB_leq hc, trivial⟩
  · cases h
def encPr (o : MPair) : List PV := encEl .pair o
def dPr : List PV → Option MPair
  | [a, b] => (dT a).bind fun a => (dN b).map fun b => ⟨a, b⟩
  | _ => none
theorem dPr_leq {ps : List PV} {s : MPair} (h : dPr ps = some s) : LeqL ps (encPr s) := by
  unfold dPr at h
  split at h
  · obtain ⟨a, ha, h⟩ := Option.bind_eq_some_iff.1 h
    obtain ⟨b, hb, rfl⟩ := Option.map_eq_some_iff.1 h
    exact ⟨dT_leq ha, dN_leq hb, trivial⟩
  · cases h
def dCmd : List PV → Option MCmd
  | [a1, a2, o, ph, p1, p2, v1, v2, f, s, b1, b2, h, l1, l2, g, t1, t2, ds, r, w, q] => (dSt [a1, a2]).bind fun id => (dl .op o).bind fun o => (dI ph).bind fun ph => (dSt [p1, p2]).bind fun p => (dSt [v1, v2]).bind fun v => (dB f).bind fun f => (dl .dep s).bind fun s => (dSt [b1, b2]).bind fun b => (dB h).bind fun h =>
      (dSt [l1, l2]).bind fun l => (dVal [g, t1, t2, ds]).bind fun va => (dB r).bind fun r => (dl .write w).bind fun w => (dl .pair q).map fun q => ⟨id, o, ph, p, v, f, s, b, h, l, va, r, w, q⟩
  | _ => none
theorem dCmd_leq {ps : List PV} {c : MCmd} (h : dCmd ps = some c) : LeqL ps (encCmd c) := by
  unfold dCmd at h
  split at h
  · obtain ⟨id, h1, h⟩ := Option.bind_eq_some_iff.1 h
    obtain ⟨o, h2, h⟩ := Option.bind_eq_some_iff.1 h
    obtain ⟨ph, h3, h⟩ := Option.bind_eq_some_iff.1 h
    obtain ⟨p, h4, h⟩ := Option.bind_eq_some_iff.1 h
    obtain ⟨v, h5, h⟩ := Option.bind_eq_some_iff.1 h
    obtain ⟨f, h6, h⟩ := Option.bind_eq_some_iff.1 h
    obtain ⟨s, h7, h⟩ := Option.bind_eq_some_iff.1 h
    obtain ⟨b, h8, h⟩ := Option.bind_eq_some_iff.1 h
    obtain ⟨hh, h9, h⟩ := Option.bind_eq_some_iff.1 h
    obtain ⟨l, h10, h⟩ := Option.bind_eq_some_iff.1 h
    obtain ⟨va, h11, h⟩ := Option.bind_eq_some_iff.1 h
    obtain ⟨r, h12, h⟩ := Option.bind_eq_some_iff.1 h
    obtain ⟨w, h13, h⟩ := Option.bind_eq_some_iff.1 h
    obtain ⟨q, h14, rfl⟩ := Option.map_eq_some_iff.1 h
    obtain ⟨a1, a2, -⟩ := dSt_leq h1
    obtain ⟨b1, b2, -⟩ := dSt_leq h4
    obtain ⟨c1, c2, -⟩ := dSt_leq h5
    obtain ⟨d1, d2, -⟩ := dSt_leq h8
    obtain ⟨e1, e2, -⟩ := dSt_leq h10
    obtain ⟨g1, g2, g3, g4, -⟩ := dVal_leq h11
    exact ⟨a1, a2, dl_leq h2, dI_leq h3, b1, b2, c1, c2, dB_leq h6, dl_leq h7, d1, d2, dB_leq h9, e1, e2, g1, g2, g3, g4, dB_leq h12, dl_leq h13, dl_leq h14, trivial⟩
  · cases h
def dSp : List PV → Option MSpan
  | [a, b] => (dT a).bind fun a => (dT b).map fun b => ⟨a, b⟩
  | _ => none
theorem dSp_leq {ps : List PV} {s : MSpan} (h : dSp ps = some s) : LeqL ps (encEl .span s) := by
  unfold dSp at h
  split at h
  · obtain ⟨a, ha, h⟩ := Option.bind_eq_some_iff.1 h
    obtain ⟨b, hb, rfl⟩ := Option.map_eq_some_iff.1 h
    exact ⟨dT_leq ha, dT_leq hb, trivial⟩
  · cases h
def dSh : List PV → Option MShard
  | [a, b, c] => (dSp [a, b]).bind fun s => (dl .int c).map fun n => ⟨s, n⟩
  | _ => none
theorem dSh_leq {ps : List PV} {s : MShard} (h : dSh ps = some s) : LeqL ps (encEl .shard s) := by
  unfold dSh at h
  split at h
  · obtain ⟨a, ha, h⟩ := Option.bind_eq_some_iff.1 h
    obtain ⟨b, hb, rfl⟩ := Option.map_eq_some_iff.1 h
    obtain ⟨a1, a2, -⟩ := dSp_leq ha
    exact ⟨a1, a2, dl_leq hb, trivial⟩
  · cases h
def dDep : List PV → Option MDep
  | [a, b] => (dI a).bind fun a => (dl .stamp b).map fun b => ⟨a, b⟩
  | _ => none
theorem dDep_leq {ps : List PV} {s : MDep} (h : dDep ps = some s) : LeqL ps (encEl .dep s) := by
  unfold dDep at h
  split at h
  · obtain ⟨a, ha, h⟩ := Option.bind_eq_some_iff.1 h
    obtain ⟨b, hb, rfl⟩ := Option.map_eq_some_iff.1 h
    exact ⟨dI_leq ha, dl_leq hb, trivial⟩
  · cases h
def dTold : List PV → Option MTold
  | [n, o, v1, v2, f, d, h, b1, b2, g, t1, t2, ds] => (dI n).bind fun n => (dl .op o).bind fun o => (dSt [v1, v2]).bind fun v => (dB f).bind fun f => (dl .dep d).bind fun d => (dB h).bind fun h => (dSt [b1, b2]).bind fun b => (dVal [g, t1, t2, ds]).map fun va => ⟨n, o, v, f, d, h, b, va⟩
  | _ => none
theorem dTold_leq {ps : List PV} {c : MTold} (h : dTold ps = some c) : LeqL ps (encTold c) := by
  unfold dTold at h
  split at h
  · obtain ⟨n, h1, h⟩ := Option.bind_eq_some_iff.1 h
    obtain ⟨o, h2, h⟩ := Option.bind_eq_some_iff.1 h
    obtain ⟨v, h3, h⟩ := Option.bind_eq_some_iff.1 h
    obtain ⟨f, h4, h⟩ := Option.bind_eq_some_iff.1 h
    obtain ⟨d, h5, h⟩ := Option.bind_eq_some_iff.1 h
    obtain ⟨hh, h6, h⟩ := Option.bind_eq_some_iff.1 h
    obtain ⟨b, h7, h⟩ := Option.bind_eq_some_iff.1 h
    obtain ⟨va, h8, rfl⟩ := Option.map_eq_some_iff.1 h
    obtain ⟨c1, c2, -⟩ := dSt_leq h3
    obtain ⟨d1, d2, -⟩ := dSt_leq h7
    obtain ⟨g1, g2, g3, g4, -⟩ := dVal_leq h8
    exact ⟨dI_leq h1, dl_leq h2, c1, c2, dB_leq h4, dl_leq h5, dB_leq h6, d1, d2, g1, g2, g3, g4, trivial⟩
  · cases h
def dAct : List PV → Option MAct
  | [n, o, a1, a2, b1, b2, f, d, g, t1, t2, ds, w, q] => (dI n).bind fun n => (dl .op o).bind fun o => (dSt [a1, a2]).bind fun v => (dSt [b1, b2]).bind fun b => (dB f).bind fun f => (dl .dep d).bind fun d => (dVal [g, t1, t2, ds]).bind fun va => (dl .write w).bind fun w => (dl .pair q).map fun q => ⟨n, o, v, b, f, d, va, w, q⟩
  | _ => none
theorem dAct_leq {ps : List PV} {c : MAct} (h : dAct ps = some c) : LeqL ps (encAct c) := by
  unfold dAct at h
  split at h
  · obtain ⟨n, h1, h⟩ := Option.bind_eq_some_iff.1 h
    obtain ⟨o, h2, h⟩ := Option.bind_eq_some_iff.1 h
    obtain ⟨v, h3, h⟩ := Option.bind_eq_some_iff.1 h
    obtain ⟨b, h7, h⟩ := Option.bind_eq_some_iff.1 h
    obtain ⟨f, h4, h⟩ := Option.bind_eq_some_iff.1 h
    obtain ⟨d, h5, h⟩ := Option.bind_eq_some_iff.1 h
    obtain ⟨va, h8, h⟩ := Option.bind_eq_some_iff.1 h
    obtain ⟨w, h9, h⟩ := Option.bind_eq_some_iff.1 h
    obtain ⟨q, h10, rfl⟩ := Option.map_eq_some_iff.1 h
    obtain ⟨c1, c2, -⟩ := dSt_leq h3
    obtain ⟨d1, d2, -⟩ := dSt_leq h7
    obtain ⟨g1, g2, g3, g4, -⟩ := dVal_leq h8
    exact ⟨dI_leq h1, dl_leq h2, c1, c2, d1, d2, dB_leq h4, dl_leq h5, g1, g2, g3, g4, dl_leq h9, dl_leq h10, trivial⟩
  · cases h
def dMsg : List PV → Option MMsg
  | [k, s, d, i1, i2, b1, b2, m1, m2, o, f, ds, h, a1, a2, g, t1, t2, vd, w, q] => (dI k).bind fun k => (dI s).bind fun s => (dI d).bind fun d => (dSt [i1, i2]).bind fun i => (dSt [b1, b2]).bind fun b => (dSt [m1, m2]).bind fun m => (dl .op o).bind fun o => (dB f).bind fun f => (dl .dep ds).bind fun ds => (dB h).bind fun h =>
      (dSt [a1, a2]).bind fun a => (dVal [g, t1, t2, vd]).bind fun va => (dl .write w).bind fun w => (dl .pair q).map fun q => ⟨k, s, d, i, b, m, o, f, ds, h, a, va, w, q⟩
  | _ => none
theorem dMsg_leq {ps : List PV} {c : MMsg} (h : dMsg ps = some c) : LeqL ps (encMsg c) := by
  unfold dMsg at h
  split at h
  · obtain ⟨k, h1, h⟩ := Option.bind_eq_some_iff.1 h
    obtain ⟨s, h2, h⟩ := Option.bind_eq_some_iff.1 h
    obtain ⟨d, h3, h⟩ := Option.bind_eq_some_iff.1 h
    obtain ⟨i, h4, h⟩ := Option.bind_eq_some_iff.1 h
    obtain ⟨b, h5, h⟩ := Option.bind_eq_some_iff.1 h
    obtain ⟨m, h6, h⟩ := Option.bind_eq_some_iff.1 h
    obtain ⟨o, h7, h⟩ := Option.bind_eq_some_iff.1 h
    obtain ⟨f, h8, h⟩ := Option.bind_eq_some_iff.1 h
    obtain ⟨ds, h9, h⟩ := Option.bind_eq_some_iff.1 h
    obtain ⟨hh, h10, h⟩ := Option.bind_eq_some_iff.1 h
    obtain ⟨a, h11, h⟩ := Option.bind_eq_some_iff.1 h
    obtain ⟨va, h12, h⟩ := Option.bind_eq_some_iff.1 h
    obtain ⟨w, h13, h⟩ := Option.bind_eq_some_iff.1 h
    obtain ⟨q, h14, rfl⟩ := Option.map_eq_some_iff.1 h
    obtain ⟨c1, c2, -⟩ := dSt_leq h4
    obtain ⟨d1, d2, -⟩ := dSt_leq h5
    obtain ⟨e1, e2, -⟩ := dSt_leq h6
    obtain ⟨f1, f2, -⟩ := dSt_leq h11
    obtain ⟨g1, g2, g3, g4, -⟩ := dVal_leq h12
    exact ⟨dI_leq h1, dI_leq h2, dI_leq h3, c1, c2, d1, d2, e1, e2, dl_leq h7, dB_leq h8, dl_leq h9, dB_leq h10, f1, f2, g1, g2, g3, g4, dl_leq h13, dl_leq h14, trivial⟩
  · cases h
def d1 {α : Type} (f : PV → Option α) : List PV → Option α
  | [p] => f p
  | _ => none
/-- an element read of its cells -/
def decEl : (t : Ty) → List PV → Option t.El
  | .int, ps => d1 dI ps
  | .byte, ps => none
  | .text, ps => d1 dT ps
  | .stamp, ps => dSt ps
  | .span, ps => dSp ps
  | .shard, ps => dSh ps
  | .dep, ps => dDep ps
  | .op, ps => dOp ps
  | .pair, ps => dPr ps
  | .write, ps => dWr ps
  | .cmd, ps => dCmd ps
  | .told, ps => dTold ps
  | .act, ps => dAct ps
  | .msg, ps => dMsg ps
  | .deps, ps => d1 (dl .dep) ps
  | .stamps, ps => d1 (dl .stamp) ps
  | .spans, ps => d1 (dl .span) ps
theorem d1_leq {α : Type} {f : PV → Option α} {enc : α → PV} (hf : ∀ {p a}, f p = some a → p.Leq (enc a)) {ps : List PV} {a : α} (h : d1 f ps = some a) : LeqL ps [enc a] := by
  unfold d1 at h
  split at h
  · exact ⟨hf h, trivial⟩
  · cases h
theorem decEl_leq : ∀ {t : Ty} {ps : List PV} {x : t.El}, decEl t ps = some x → LeqL ps (encEl t x)
  | .int, ps, x, h => d1_leq (enc := pI) dI_leq h
  | .byte, ps, x, h => by cases h
  | .text, ps, x, h => d1_leq (enc := pT) dT_leq h
  | .stamp, ps, x, h => dSt_leq h
  | .span, ps, x, h => dSp_leq h
  | .shard, ps, x, h => dSh_leq h
  | .dep, ps, x, h => dDep_leq h
  | .op, ps, x, h => dOp_leq h
  | .pair, ps, x, h => dPr_leq h
  | .write, ps, x, h => dWr_leq h
  | .cmd, ps, x, h => dCmd_leq h
  | .told, ps, x, h => dTold_leq h
  | .act, ps, x, h => dAct_leq h
  | .msg, ps, x, h => dMsg_leq h
  | .deps, ps, x, h => d1_leq (enc := .dat .dep) dl_leq h
  | .stamps, ps, x, h => d1_leq (enc := .dat .stamp) dl_leq h
  | .spans, ps, x, h => d1_leq (enc := .dat .span) dl_leq h
/-- rows read as elements -/
def decRows (t : Ty) : List (List PV) → Option (List t.El)
  | [] => some []
  | r :: rs => (decEl t r).bind fun x => (decRows t rs).map fun xs => x :: xs
theorem LeqL.len : ∀ {ps qs : List PV}, LeqL ps qs → ps.length = qs.length
  | [], [], _ => rfl
  | p :: ps, q :: qs, h => by rw [List.length_cons, List.length_cons, h.2.len]
  | [], q :: qs, h => by cases h
  | p :: ps, [], h => by cases h
theorem LeqL.append : ∀ {ps qs rs ss : List PV}, LeqL ps qs → LeqL rs ss → LeqL (ps ++ rs) (qs ++ ss)
  | [], [], rs, ss, _, k => k
  | p :: ps, q :: qs, rs, ss, h, k => ⟨h.1, h.2.append k⟩
  | [], q :: qs, _, _, h, _ => by cases h
  | p :: ps, [], _, _, h, _ => by cases h
theorem decRows_leq {t : Ty} : ∀ {rows : List (List PV)} {xs : List t.El}, decRows t rows = some xs → LeqL rows.flatten (encs t xs).flatten ∧ rows.length = xs.length ∧ ∀ r ∈ rows, r.length = t.w
  | [], xs, h => by
    obtain rfl := Option.some.inj h
    exact ⟨trivial, rfl, fun r hr => by simp at hr⟩
  | r :: rs, xs, h => by
    obtain ⟨x, hx, h⟩ := Option.bind_eq_some_iff.1 h
    obtain ⟨ys, hy, rfl⟩ := Option.map_eq_some_iff.1 h
    obtain ⟨h1, h2, h3⟩ := decRows_leq hy
    refine ⟨?_, by rw [List.length_cons, List.length_cons, h2], fun q hq => ?_⟩
    · exact (decEl_leq hx).append h1
    · rcases List.mem_cons.1 hq with rfl | hq
      · rw [(decEl_leq hx).len, enc_len]
      · exact h3 q hq
theorem encs_length (t : Ty) (l : List t.El) : (encs t l).length = l.length := by unfold encs; rw [List.length_map]
theorem encs_append (t : Ty) (l m : List t.El) : encs t (l ++ m) = encs t l ++ encs t m := by unfold encs; rw [List.map_append]
end Go.Proofs.YtbljhngekhgbbaaGreat
