/- Texts of the proofs of CmdEnds, CmdFirst, CmdGrows, CmdPlays, merged (AmY, AmCl, AmSy, AmOr, AmLp, AmLg). -/
import Derived.Test.YtbljhngekhgbbaaGreatGb3b707fa
import Derived.Test.YtbljhngekhgbbaaGreatGb43ee308
import Derived.Test.YtbljhngekhgbbaaGreatG9c20b58a
import Derived.Test.YtbljhngekhgbbaaGreatG6e0496cb
import Derived.Test.YtbljhngekhgbbaaGreatG20caf6cc
import Derived.Test.YtbljhngekhgbbaaGreatGf0b3007f
import Derived.Test.YtbljhngekhgbbaaGreatG0f2df3e7
import Derived.Test.YtbljhngekhgbbaaGreatG7be370e0
set_option linter.unusedSimpArgs false
set_option linter.unusedVariables false
namespace Go.Proofs.YtbljhngekhgbbaaGreat
open Go.RowKit
set_option linter.unusedVariables false
set_option linter.unusedSectionVars false
set_option linter.unusedSimpArgs false
/-- code -/
def evC (P : Program) (F : CallF) (N : Nat) (n : Nat) : Code → SSt → Option (Exit × SSt)
  | .skip, st => some (.normal, st)
  | .label _, st => some (.normal, st)
  | .exit id, st => some (.exit id, st)
  | .ret, st => some (.ret, st)
  | .region _ ops false, st => (evOps P F N ops ops.toList st).map (Exit.normal, ·)
  | .region _ ops true, st => (evDraw P F N ops st).map (Exit.normal, ·)
  | .seq x y, st => match evC P F N n x st with
    | some (.normal, s) => evC P F N n y s
    | r => r
  | .cond c x y, st => match st.eval c with
    | some (.one (.lit (.bool true))) => evC P F N n x st
    | some (.one (.lit (.bool false))) => evC P F N n y st
    | _ => none
  | .block id c, st => match evC P F N n c st with
    | some (.exit i, s) => if i = id then some (.normal, s) else some (.exit i, s)
    | r => r
  | .loop c, st => itL (evC P F N n c) n st
  | _, _ => none
/-- a region whose last operation lays a call by -/
def dfOf (ops : Array Oper) : Option (List Oper × Oper × Operand) := match ops.toList.reverse with
  | o :: l => match o.op with
    | .defer { callee := .value f, args := args, argTypes := ats } => if o.dst = none ∧ o.guard = none ∧ args.size = 0 ∧ ats.size = 0 then some (l.reverse, o, f) else none
    | _ => none
  | _ => none
/-- code that may lay a call by; I: which deferred functions do nothing where nothing was thrown, what they have caught -/
def evS (P : Program) (I : List (FuncId × Nat)) (F : CallF) (N : Nat) (n : Nat) : Code → SSt → Option (Exit × SSt)
  | .seq (.region id ops false) y, st => match dfOf ops with
    | some (l, _, f) => (evOps P F N ops l st).bind fun s => match s.eval f with
      | some (.one (.clo (.func g) [] cap)) => if I.contains (g, cap.length) = true ∧ enterB P g = true then evC P F N n y s else none
      | _ => none
    | none => match evOps P F N ops ops.toList st with
      | some s => evS P I F N n y s
      | none => none
  | .seq x y, st => match evC P F N n x st with
    | some (.normal, s) => evS P I F N n y s
    | r => r
  | c, st => evC P F N n c st
/-- R: what is known of some functions -/
def evF (P : Program) (I : List (FuncId × Nat)) (R : CallF) (n : Nat) : Nat → CallF
  | 0 => fun _ _ _ _ => none
  | k + 1 => fun f ts σ m => match R f ts σ m with
   | some q => some q
   | none => match P.funcs[f]? with
    | some fn => match fn.body with
      | some c => if Nat.ble ts.length fn.ntmps = true then (match evS P I (evF P I R n k) fn.ntmps n c (startS ts σ m) with
        | some (.normal, st) | some (.ret, st) => (resS P st fn.results.toList).map fun us => (retS us, st.boxes, st.next)
        | _ => none) else none
      | none => none
    | none => none
section
variable {P : Program} {F : CallF} {N n : Nat} {C : Ctx} {ops : Array Oper}
theorem evC_ok (hF : FOk P F) (hm : P.follows .mixedOrders = true) : ∀ (c : Code) {st st' : SSt} {e : Exit}, evC P F N n c st = some (e, st') → SW P N C c (fun e2 s2 => e2 = e ∧ s2 = st') st
  | .skip, st, st', e, h => by simp only [evC, Option.some.injEq, Prod.mk.injEq] at h; obtain ⟨rfl, rfl⟩ := h; exact SW.skip ⟨rfl, rfl⟩
  | .label _, st, st', e, h => by simp only [evC, Option.some.injEq, Prod.mk.injEq] at h; obtain ⟨rfl, rfl⟩ := h; exact SW.label ⟨rfl, rfl⟩
  | .exit _, st, st', e, h => by simp only [evC, Option.some.injEq, Prod.mk.injEq] at h; obtain ⟨rfl, rfl⟩ := h; exact SW.exit ⟨rfl, rfl⟩
  | .ret, st, st', e, h => by simp only [evC, Option.some.injEq, Prod.mk.injEq] at h; obtain ⟨rfl, rfl⟩ := h; exact SW.ret ⟨rfl, rfl⟩
  | .region _ ops false, st, st', e, h => by
    simp only [evC, Option.map_eq_some_iff, Prod.mk.injEq] at h
    obtain ⟨s, h1, rfl, rfl⟩ := h
    exact SW.reg rfl ⟨s, evOps_ok hF h1, rfl, rfl⟩
  | .seq x y, st, st', e, h => by
    simp only [evC] at h
    split at h
    · rename_i s hx
      refine SW.seq ((evC_ok hF hm x hx).mono ?_)
      rintro e2 s2 ⟨rfl, rfl⟩
      exact evC_ok hF hm y h
    · rename_i r hne
      refine SW.seq ((evC_ok hF hm x h).mono ?_)
      rintro e2 s2 ⟨rfl, rfl⟩
      cases e2 with
      | normal => exact absurd h (hne _)
      | _ => exact ⟨rfl, rfl⟩
  | .cond c x y, st, st', e, h => by
    simp only [evC] at h
    split at h
    · rename_i hc
      exact SW.cond hc (by rw [if_pos rfl]; exact evC_ok hF hm x h)
    · rename_i hc
      exact SW.cond hc (by rw [if_neg (by decide)]; exact evC_ok hF hm y h)
    · cases h
  | .block id c, st, st', e, h => by
    simp only [evC] at h
    split at h
    · rename_i i s hc
      refine SW.block ((evC_ok hF hm c hc).mono ?_)
      rintro e2 s2 ⟨rfl, rfl⟩
      simp only [SIn]
      split at h
      · rename_i hi; rw [if_pos hi]; simp only [Option.some.injEq, Prod.mk.injEq] at h; exact ⟨h.1, h.2⟩
      · rename_i hi; rw [if_neg hi]; simp only [Option.some.injEq, Prod.mk.injEq] at h; exact ⟨h.1, h.2⟩
    · rename_i r hne
      refine SW.block ((evC_ok hF hm c h).mono ?_)
      rintro e2 s2 ⟨rfl, rfl⟩
      cases e2 with
      | exit i => exact absurd h (hne _ _)
      | _ => exact ⟨rfl, rfl⟩
  | .loop c, st, st', e, h => by
    simp only [evC] at h
    refine SW.loop1 (fun k s => itL (evC P F N n c) k s = some (e, st')) n h ?_
    intro k s hk
    cases k with
    | zero => cases hk
    | succ k =>
      simp only [itL] at hk
      split at hk
      · rename_i s' hs
        refine (evC_ok hF hm c hs).mono ?_
        rintro e2 s2 ⟨rfl, rfl⟩
        exact ⟨k, Nat.lt_succ_self _, hk⟩
      · rename_i r hne
        refine (evC_ok hF hm c hk).mono ?_
        rintro e2 s2 ⟨rfl, rfl⟩
        cases e2 with
        | normal => exact absurd hk (hne _)
        | _ => exact ⟨rfl, rfl⟩
  | .region _ ops true, st, st', e, h => by
    simp only [evC, Option.map_eq_some_iff, Prod.mk.injEq] at h
    obtain ⟨sn, hq, rfl, rfl⟩ := h
    exact SW.evDraw hF hm hq ⟨rfl, rfl⟩
  | .rangeFunc _ _ _ _, _, _, _, h => by simp [evC] at h
  | .scope _, _, _, _, h => by simp [evC] at h
  | .goto _, _, _, _, h => by simp [evC] at h
  | .refuse _, _, _, _, h => by simp [evC] at h
theorem dfOf_eq {l : List Oper} {o : Oper} {f : Operand} (h : dfOf ops = some (l, o, f)) : ops.toList = l ++ [⟨none, .defer { callee := .value f, args := #[], argTypes := #[] }, o.type, o.pos, o.after, none⟩] := by
  unfold dfOf at h
  split at h
  · rename_i o' l' hr
    split at h
    · rename_i f' args ats ho
      split at h
      · rename_i hc
        simp only [Option.some.injEq, Prod.mk.injEq] at h
        obtain ⟨rfl, rfl, rfl⟩ := h
        have : ops.toList = (o' :: l').reverse := by rw [← hr, List.reverse_reverse]
        rw [this, List.reverse_cons]
        congr 2
        obtain ⟨dst, op, ty, pos, af, gd⟩ := o'
        obtain ⟨c1, c2, c3, c4⟩ := hc
        simp only at ho c1 c2
        rw [ho, c1, c2, Array.eq_empty_of_size_eq_zero c3, Array.eq_empty_of_size_eq_zero c4]
      · cases h
    · cases h
  · cases h
theorem evS_ok {I : List (FuncId × Nat)} (hI : ∀ q ∈ I, IdleD P q.1 q.2) (hF : FOk P F) (hm : P.follows .mixedOrders = true) : ∀ (c : Code) {st st' : SSt} {e : Exit}, evS P I F N n c st = some (e, st') →
    (∀ C, SW P N C c (fun e2 s2 => e2 = e ∧ s2 = st') st) ∨ ∃ g k, IdleD P g k ∧ enterB P g = true ∧ ∀ C : Ctx, C.ds = [] → SD P g k N C c (fun e2 s2 => e2 = e ∧ s2 = st') st
  | .seq x y, st, st', e, h => by
    have seqs : ∀ {s1 : SSt}, (∀ C, SW P N C x (fun e2 s2 => e2 = .normal ∧ s2 = s1) st) → evS P I F N n y s1 = some (e, st') →
        (∀ C, SW P N C (.seq x y) (fun e2 s2 => e2 = e ∧ s2 = st') st) ∨ ∃ g k, IdleD P g k ∧ enterB P g = true ∧ ∀ C : Ctx, C.ds = [] → SD P g k N C (.seq x y) (fun e2 s2 => e2 = e ∧ s2 = st') st := by
      intro s1 h1 h2
      rcases evS_ok hI hF hm y h2 with h3 | ⟨g, k, g1, g2, g3⟩
      · left
        intro C
        refine SW.seq ((h1 C).mono ?_)
        rintro e2 s2 ⟨rfl, rfl⟩
        exact h3 C
      · refine .inr ⟨g, k, g1, g2, fun C hC => SD.seq ((h1 C).mono ?_)⟩
        rintro e2 s2 ⟨rfl, rfl⟩
        exact g3 C hC
    have gen : (match evC P F N n x st with
        | some (.normal, s) => evS P I F N n y s
        | r => r) = some (e, st') → (∀ C, SW P N C (.seq x y) (fun e2 s2 => e2 = e ∧ s2 = st') st) ∨ ∃ g k, IdleD P g k ∧ enterB P g = true ∧ ∀ C : Ctx, C.ds = [] → SD P g k N C (.seq x y) (fun e2 s2 => e2 = e ∧ s2 = st') st := by
      intro h
      split at h
      · rename_i s hx
        exact seqs (fun C => evC_ok hF hm x hx) h
      · rename_i r hne
        left
        intro C
        refine SW.seq ((evC_ok hF hm x h).mono ?_)
        rintro e2 s2 ⟨rfl, rfl⟩
        cases e2 with
        | normal => exact absurd h (hne _)
        | _ => exact ⟨rfl, rfl⟩
    cases x with
    | region id ops d =>
      cases d with
      | true => exact gen h
      | false =>
        simp only [evS] at h
        split at h
        · rename_i l o f hd
          obtain ⟨s, hs, h⟩ := Option.bind_eq_some_iff.1 h
          split at h
          · rename_i g cap hf
            split at h
            · rename_i hc
              refine .inr ⟨g, cap.length, hI _ (List.contains_iff_mem.1 hc.1), hc.2, fun C hC => ?_⟩
              exact SD.defer hC (dfOf_eq hd) (evOps_ok hF hs) hf rfl fun C' _ => evC_ok hF hm y h
            · cases h
          · cases h
        · split at h
          · rename_i s hs
            exact seqs (fun C => SW.reg rfl ⟨s, evOps_ok hF hs, rfl, rfl⟩) h
          · cases h
    | _ => exact gen h
  | .skip, st, st', e, h => .inl fun C => evC_ok hF hm .skip h
  | .label l, st, st', e, h => .inl fun C => evC_ok hF hm (.label l) h
  | .exit i, st, st', e, h => .inl fun C => evC_ok hF hm (.exit i) h
  | .ret, st, st', e, h => .inl fun C => evC_ok hF hm .ret h
  | .region i o d, st, st', e, h => .inl fun C => evC_ok hF hm (.region i o d) h
  | .cond c x y, st, st', e, h => .inl fun C => evC_ok hF hm (.cond c x y) h
  | .block i c, st, st', e, h => .inl fun C => evC_ok hF hm (.block i c) h
  | .loop c, st, st', e, h => .inl fun C => evC_ok hF hm (.loop c) h
  | .rangeFunc _ _ _ _, _, _, _, h => by simp [evS, evC] at h
  | .scope _, _, _, _, h => by simp [evS, evC] at h
  | .goto _, _, _, _, h => by simp [evS, evC] at h
  | .refuse _, _, _, _, h => by simp [evS, evC] at h
theorem evF_ok {I : List (FuncId × Nat)} {R : CallF} (hI : ∀ q ∈ I, IdleD P q.1 q.2) (hR : FOk P R) (hm : P.follows .mixedOrders = true) : ∀ k, FOk P (evF P I R n k)
  | 0, f, ts, σ, m, r, σ', m', h => by simp [evF] at h
  | k + 1, f, ts, σ, m, r, σ', m', h => by
    simp only [evF] at h
    split at h
    · rename_i q hq
      obtain rfl := Option.some.inj h
      exact hR _ _ _ _ _ _ _ hq
    split at h
    · rename_i fn hf
      split at h
      · rename_i c hb
        split at h
        · rename_i hle
          have hn := Nat.le_of_ble_eq_true hle
          have fin : ∀ (e : Exit) (st : SSt), (e = .normal ∨ e = .ret) → evS P I (evF P I R n k) fn.ntmps n c (startS ts σ m) = some (e, st) → ((resS P st fn.results.toList).map fun us => (retS us, st.boxes, st.next)) = some (r, σ', m') → CallsG P f σ m ts r σ' m' := by
            intro e st he hev hr
            obtain ⟨us, hus, hr⟩ := Option.map_eq_some_iff.1 hr
            simp only [Prod.mk.injEq] at hr
            obtain ⟨rfl, rfl, rfl⟩ := hr
            rcases evS_ok hI (evF_ok hI hR hm k) hm c hev with h1 | ⟨g, q, g1, g2, g3⟩
            · refine callsG_of hf hb hn fun C hC => (h1 C).mono ?_
              rintro e2 s2 ⟨rfl, rfl⟩
              exact ⟨he, by rw [hus]; rfl, fun i row h => h, Nat.le_refl _⟩
            · refine callsG_of_d hf hb hn g1 g2 fun C hC hds β a w hi => wp_mono (g3 C hds β a w hi) ?_
              rintro e2 a2 w2 ⟨s2, b2, h1, rfl, rfl⟩
              exact ⟨s2, b2, h1, he, by rw [hus]; rfl, fun i row h => h, Nat.le_refl _⟩
          split at h
          · rename_i st hev
            exact fin _ st (.inl rfl) hev h
          · rename_i st hev
            exact fin _ st (.inr rfl) hev h
          · cases h
        · cases h
      · cases h
    · cases h
end
end Go.Proofs.YtbljhngekhgbbaaGreat
namespace Go.Proofs.YtbljhngekhgbbaaGreat
open Go.RowKit
set_option linter.unusedVariables false
set_option linter.unusedSectionVars false
set_option linter.unusedSimpArgs false
def cloneA : Oper := { dst := some 2, op := Op.assign (Operand.const (Value.slice none 0 0)), type := 0, pos := "slices.go:355", after := #[], guard := none }
def clone1 (T : TypeId) : Oper := { dst := some 3, op := Op.move (Operand.tmp 0), type := T, pos := "slices.go:357", after := #[], guard := none }
def clone2 (T B : TypeId) : Oper := { dst := some 4, op := Op.binOp BinOp.eql T (Operand.tmp 3) (Operand.const (Value.slice none 0 0)) T, type := B, pos := "slices.go:357", after := #[{ on := 0, ground := Ground.data }], guard := none }
def clone3 (T : TypeId) : Oper := { dst := some 5, op := Op.buildSlice T 0 #[], type := T, pos := "slices.go:362", after := #[], guard := none }
def clone4 (T : TypeId) : Oper := { dst := some 6, op := Op.move (Operand.tmp 0), type := T, pos := "slices.go:362", after := #[], guard := none }
def clone5 (T : TypeId) : Oper := { dst := some 7, op := Op.call { callee := Callee.builtin Builtin.append, args := #[Operand.tmp 5, Operand.tmp 6], argTypes := #[T, T] }, type := T, pos := "slices.go:362", after := #[{ on := 0, ground := Ground.data }, { on := 1, ground := Ground.data }], guard := none }
def clone6 (T : TypeId) : Oper := { dst := some 2, op := Op.assign (Operand.tmp 7), type := T, pos := "slices.go:362", after := #[{ on := 2, ground := Ground.data }, { on := 2, ground := Ground.chain }, { on := 0, ground := Ground.phase }, { on := 1, ground := Ground.phase }, { on := 2, ground := Ground.phase }], guard := none }
def cloneCode (T B : TypeId) : Code := (Code.region 0 #[{ cloneA with type := T }] false).seq
  (((Code.region 1 #[clone1 T, clone2 T B] false).seq (Code.cond (Operand.tmp 4) ((Code.region 2 #[{ cloneA with type := T, pos := "slices.go:358" }] false).seq Code.ret) Code.skip)).seq
    ((Code.region 3 #[clone3 T, clone4 T, clone5 T, clone6 T] false).seq Code.ret))
section
variable {P : Program} {N n : Nat} {C : Ctx} {st : SSt} {Q : Exit → SSt → Prop} {σ : Store}
/-- is it nil? whatever it is -/
theorem SW.nilTest {id : Nat} {T B e : TypeId} {ys : List (List PV)} {x : TV} (hT : elemD P T = some e) (hN : 4 < N) (hx : st.get 0 = some x) (hys : ∀ s : SSt, s.get 3 = some x → s.boxes = st.boxes → s.rows? (.tmp 3) = some ys)
    (h : ∀ b : Bool, (b = true → ys = []) → Q .normal ((st.put (some 3) x).put (some 4) (.one (.lit (.bool b))))) : SW P N C (.region id #[clone1 T, clone2 T B] false) Q st := fun β a w hi => by
  refine wp_region ?_
  have hr : List.range (#[clone1 T, clone2 T B] : Array Oper).size = [0, 1] := rfl
  rw [hr, wpOps_cons]
  unfold wpOp
  simp only [List.getElem?_toArray, List.getElem?_cons_zero]
  have hwant : ∀ o : Oper, o.guard = none → Region.wanted o (yielded #[clone1 T, clone2 T B] a.tmps) = true := fun o ho => by unfold Region.wanted; rw [ho]
  rw [if_pos (hwant (clone1 T) rfl)]
  refine .inl ?_
  obtain ⟨v, hv, hrep⟩ := hi.1.env 0 x hx
  have e0 : a.eval (.tmp 0) = v := by simp [Act.eval, Array.getD_eq_getD_getElem?, hv]
  refine wp_value (o := clone1 T) (v := a.eval (.tmp 0)) (w' := w) rfl ?_
  rw [e0]
  have h1 : InvC N C β (st.put (some 3) x) (a.put (some 3) v) w := hi.put hrep (fun d hd => by cases hd; omega)
  rw [wpOps_cons]
  unfold wpOp
  simp only [List.getElem?_toArray, List.getElem?_cons_succ, List.getElem?_cons_zero]
  rw [if_pos (by unfold Region.wanted; rfl)]
  refine .inl ?_
  have hg : (st.put (some 3) x).get 3 = some x := by rw [SSt.get_put, if_pos rfl]
  obtain ⟨A, c, hval, hle, hA⟩ := h1.1.src_ (x := .tmp 3) (hys _ hg (SSt.put_boxes _ _ _))
  have hu := elemD_ hT
  have hrun : (execOp (a.put (some 3) v).eval (clone2 T B)).run P w = .ok (.value (.bool A.isNone)) w := by
    have e1 : (eqGuard .eql T (.tmp 3) (.const (.slice none 0 0)) (.slice A ys.length c) (.slice none 0 0)).run P w = .ok () w := rfl
    have e2 : (binOp .eql T (.slice A ys.length c) (.slice none 0 0)).run P w = .ok (.bool A.isNone) w := by
      show (do pure (.bool (← Op.equal T (.slice A ys.length c) (.slice none 0 0))) : Sem Value).run P w = _
      have : (Op.equal T (.slice A ys.length c) (.slice none 0 0)).run P w = .ok A.isNone w := by
        show (Op.equalIn 10000 T _ _).run P w = _
        unfold Op.equalIn
        rw [Sem.run_bind, run_underlying hu]
        cases A <;> rfl
      rw [Sem.run_bind, this]
      rfl
    unfold execOp clone2
    dsimp only
    show (do pure (Next.value (← (do eqGuard .eql T (.tmp 3) (.const (.slice none 0 0)) ((a.put (some 3) v).eval (.tmp 3)) (.slice none 0 0); binOp .eql T ((a.put (some 3) v).eval (.tmp 3)) (.slice none 0 0)))) : Sem Next).run P w = _
    rw [hval, Sem.run_bind, Sem.run_bind, e1, Result.andThen_ok, e2]
    rfl
  refine wp_value (o := clone2 T B) (w' := w) hrun ?_
  show ∃ st' β', InvC N C β' st' ((a.put (some 3) v).put (some 4) (.bool A.isNone)) w ∧ Q .normal st'
  refine ⟨_, β, h1.put (dst := some 4) (tv := .one (.lit (.bool A.isNone))) (.one (.lit rfl)) (fun d hd => by cases hd; omega), h _ fun hb => ?_⟩
  refine Classical.byContradiction fun hne => ?_
  obtain ⟨ad, us, k, rfl, _⟩ := hA hne
  cases hb
theorem clone_calls {f : FuncId} {fn : Func} {T B e : TypeId} {k b : Nat} {x : TV} {ys : List (List PV)} (hf : P.funcs[f]? = some fn) (hb : fn.body = some (cloneCode T B)) (hr : fn.results = #[.tmp 2]) (hn : fn.ntmps = 8) (hT : elemD P T = some e) (hk : sizeP P e = some k) (hby : bytesP P e = some b)
    (hz0 : zeroP P e ≠ none) (he : elemOk P e k = true) (hzl : ∀ z, zeroP P e = some z → z.length = k ∧ 0 < k) (hys : (⟨[(0, x)], σ, n⟩ : SSt).rows? (.tmp 0) = some ys) (h1 : ys.length * b ≤ 140737488355328) (h2 : ys.length ≤ maxLen) (h3 : ys.all (·.length == k) = true) :
    CallsG P f σ n [x] (.one (.osl n 0 ys.length)) ((n, .own e k ys) :: σ) (n + 1) := by
  refine callsG_of hf hb (by rw [hn]; exact Nat.le_add_left 1 7) fun C hC => ?_
  rw [hr, hn]
  show SW P 8 C (cloneCode T B) _ ⟨[(0, x)], σ, n⟩
  have hrow : ∀ s : SSt, ∀ t, s.get t = some x → s.boxes = σ → s.rows? (.tmp t) = some ys := by
    intro s t hs hb
    have : s.eval (.tmp t) = (⟨[(0, x)], σ, n⟩ : SSt).eval (.tmp 0) := hs
    unfold SSt.rows? at hys ⊢
    rw [this, hb]
    exact hys
  refine SW.seq (SW.reg rfl (lv (sopW_V rfl (vassign (tv := .one (.sl true [])) rfl)) (LX.nil ?_) rfl))
  refine SW.seq (SW.seq (SW.nilTest hT (by decide) (x := x) rfl (fun s hs hb => hrow s 3 hs hb) fun b hb0 => ?_))
  show SW P 8 C _ _ (⟨[(4, .one (.lit (.bool b))), (3, x), (2, .one (.sl true [])), (0, x)], σ, n⟩ : SSt)
  refine SW.cond (t := b) rfl ?_
  cases b with
  | true =>
    rw [if_pos rfl]
    obtain rfl := hb0 rfl
    refine SW.seq (SW.reg rfl (lv (sopW_V rfl (vassign (tv := .one (.sl true [])) rfl)) (LX.nil ?_) rfl))
    refine SW.own 2 e k rfl (SW.ret ⟨.inr rfl, rfl, fun i row h => h, Nat.le_refl _⟩)
  | false =>
    rw [if_neg (by decide)]
    refine SW.skip ?_
    have hz : ∃ z, zeroP P e = some z := Option.ne_none_iff_exists'.1 hz0
    obtain ⟨z, hz⟩ := hz
    have hzz := hzl z hz
    refine SW.seq (SW.reg rfl (lm (tv := .one (.sl true [])) (bx' := σ) (n' := n) rfl ?_ (lv (sopW_V rfl (vmove rfl)) (LX.cons (c := none) (s1 := ⟨(7, .one (.osl n 0 ys.length)) :: (6, x) :: (5, .one (.sl true [])) :: [(4, .one (.lit (.bool false))), (3, x), (2, .one (.sl true [])), (0, x)], (n, .own e k ys) :: σ, n + 1⟩) (ck := []) ?_ (fun q hq => by simp at hq)
      (lv (sopW_V rfl (vassign rfl)) (LX.nil (SW.ret ⟨.inr rfl, rfl, fun i row h => h, Nat.le_refl _⟩)) rfl)) rfl) rfl))
    · simp only [sopM, clone3, hT, hk, hz, Option.bind_some, SSt.parts, List.toList_toArray]
      rw [if_pos ⟨hzz.1, hzz.2, by omega⟩]
      simp [fillR, freess]
    · have hev : SSt.rows? (⟨(6, x) :: (5, .one (.sl true [])) :: [(4, .one (.lit (.bool false))), (3, x), (2, .one (.sl true [])), (0, x)], σ, n⟩ : SSt) (.tmp 6) = some ys := hrow _ 6 rfl rfl
      have hA : sopA P (⟨(6, x) :: (5, .one (.sl true [])) :: [(4, .one (.lit (.bool false))), (3, x), (2, .one (.sl true [])), (0, x)], σ, n⟩ : SSt) (clone5 T) = some (.one (.osl n 0 ys.length), (n, .own e k ys) :: σ) := by
        have hd : SSt.dest? (⟨(6, x) :: (5, .one (.sl true [])) :: [(4, .one (.lit (.bool false))), (3, x), (2, .one (.sl true [])), (0, x)], σ, n⟩ : SSt) (.tmp 5) e k = some (none, []) := rfl
        unfold sopA clone5
        dsimp only
        rw [if_pos (rfl : T = T)]
        unfold appS
        rw [hT, Option.bind_some, hk, Option.bind_some, hby, Option.bind_some, if_pos he, hd, Option.bind_some, hev, Option.map_some, Option.bind_some]
        dsimp only
        rw [if_pos ⟨rfl, by simpa using h1, by simpa using h2, rfl, h3⟩]
        simp [rmO]
      unfold stepF
      have hw : sopW P (⟨(6, x) :: (5, .one (.sl true [])) :: [(4, .one (.lit (.bool false))), (3, x), (2, .one (.sl true [])), (0, x)], σ, n⟩ : SSt) (clone5 T) = none := rfl
      have hm : sopM P (⟨(6, x) :: (5, .one (.sl true [])) :: [(4, .one (.lit (.bool false))), (3, x), (2, .one (.sl true [])), (0, x)], σ, n⟩ : SSt) (clone5 T) = none := rfl
      have hE : sopE P (⟨(6, x) :: (5, .one (.sl true [])) :: [(4, .one (.lit (.bool false))), (3, x), (2, .one (.sl true [])), (0, x)], σ, n⟩ : SSt) (clone5 T) = some (.one (.osl n 0 ys.length), (n, .own e k ys) :: σ, n + 1) := by unfold sopE; rw [hA]
      have hg : SSt.guard (⟨(6, x) :: (5, .one (.sl true [])) :: [(4, .one (.lit (.bool false))), (3, x), (2, .one (.sl true [])), (0, x)], σ, n⟩ : SSt) #[clone3 T, clone4 T, clone5 T, clone6 T] (clone5 T) = some true := rfl
      rw [if_pos (show dstB 8 (clone5 T) = true from rfl), hg]
      simp only [hw, hm, hE]
      rfl
/-- what is known of the functions of a list: they hand back a copy of their slice -/
structure CloneOK (P : Program) (q : FuncId × TypeId × Nat × Nat) : Prop where
  calls : ∀ (σ : Store) (n : Nat) (x : TV) (ys : List (List PV)), (⟨[(0, x)], σ, n⟩ : SSt).rows? (.tmp 0) = some ys → ys.length * q.2.2.2 ≤ 140737488355328 → ys.length ≤ maxLen → ys.all (·.length == q.2.2.1) = true →
    CallsG P q.1 σ n [x] (.one (.osl n 0 ys.length)) ((n, .own q.2.1 q.2.2.1 ys) :: σ) (n + 1)
/-- what is asked of types, reckoned -/
def cloneB (P : Program) (T e : TypeId) (k b : Nat) : Bool := (elemD P T == some e) && (sizeP P e == some k) && (bytesP P e == some b) && elemOk P e k && Nat.blt 0 k && match zeroP P e with
  | some z => z.length == k
  | none => false
theorem CloneOK.of {f : FuncId} {fn : Func} {T B e : TypeId} {k b : Nat} (hf : P.funcs[f]? = some fn) (hb : fn.body = some (cloneCode T B)) (hr : fn.results = #[.tmp 2]) (hn : fn.ntmps = 8) (h : cloneB P T e k b = true) : CloneOK P (f, e, k, b) := by
  unfold cloneB at h
  simp only [Bool.and_eq_true, beq_iff_eq] at h
  obtain ⟨⟨⟨⟨⟨h1, h2⟩, h3⟩, h4⟩, h5⟩, h6⟩ := h
  have h5' : 0 < k := by simpa using h5
  refine ⟨fun σ n x ys hys b1 b2 b3 => clone_calls hf hb hr hn h1 h2 h3 (fun hz => ?_) h4 (fun z hz => ?_) hys b1 b2 b3⟩
  · rw [hz] at h6; cases h6
  · rw [hz] at h6; exact ⟨by simpa using h6, h5'⟩
def cloneR (L : List (FuncId × TypeId × Nat × Nat)) : CallF := fun f ts σ n => match ts with
  | [x] => match L.find? (·.1 == f) with
    | some q => ((⟨[(0, x)], σ, n⟩ : SSt).rows? (.tmp 0)).bind fun ys => if Nat.ble (ys.length * q.2.2.2) 140737488355328 = true ∧ Nat.ble ys.length maxLen = true ∧ ys.all (·.length == q.2.2.1) = true then some (.one (.osl n 0 ys.length), (n, .own q.2.1 q.2.2.1 ys) :: σ, n + 1) else none
    | none => none
  | _ => none
theorem cloneR_ok {L : List (FuncId × TypeId × Nat × Nat)} (h : ∀ q ∈ L, CloneOK P q) : FOk P (cloneR L) := by
  intro f ts σ n r σ' n' e
  unfold cloneR at e
  split at e
  · rename_i x
    split at e
    · rename_i q hq
      obtain ⟨ys, hys, e⟩ := Option.bind_eq_some_iff.1 e
      split at e
      · rename_i hc
        simp only [Option.some.injEq, Prod.mk.injEq] at e
        obtain ⟨rfl, rfl, rfl⟩ := e
        have hf : q.1 = f := by simpa using List.find?_some hq
        subst hf
        exact (h q (List.mem_of_find?_eq_some hq)).calls σ n x ys hys (Nat.le_of_ble_eq_true hc.1) (Nat.le_of_ble_eq_true hc.2.1) hc.2.2
      · cases e
    · cases e
  · cases e
end
end Go.Proofs.YtbljhngekhgbbaaGreat
namespace Go.Proofs.YtbljhngekhgbbaaGreat
open Go.RowKit
set_option linter.unusedVariables false
set_option linter.unusedSectionVars false
set_option linter.unusedSimpArgs false
/-- what is known of functions: what must hold, the answer -/
def mAl (ops : Array Oper) (D : List (Nat × Ans)) : Nat := (List.range ops.size).foldl (fun m j => if alB ops D j = true then j + 1 else m) 0
def rowAt (ops : Array Oper) (D : List (Nat × Ans)) (l : List SSt) (S : SSt) (id i m : Nat) : Bool := (if i ≤ m then keptB ops D l id i m else keptB ops D l id m i) || match l[m]? with
  | some T => rowSame (T.boxes.lookup id) (S.boxes.lookup id)
  | none => false
def readsOkM (ops : Array Oper) (D : List (Nat × Ans)) (l : List SSt) (M n0 : Nat) : Bool := (List.range ops.size).all fun i => match ops[i]?, l[i]? with
  | some o, some S => match S.reads o with
    | none => true
    | some id => ((List.range ops.size).any (fun j => effB ops D j && !alB ops D j && edgeB o j) || (rowAt ops D l S id i M && (Nat.blt id n0 || (List.range ops.size).any fun j => alB ops D j && id == n0 + rk ops D j && pathB ops 8 i j))) &&
      (List.range (ops.size + 1)).all fun m => Nat.ble m M || !possB ops D i o m || rowAt ops D l S id i m
  | _, _ => false
/-- may the order be drawn? -/
def drawB (ops : Array Oper) (D : List (Nat × Ans)) (l : List SSt) : Bool := (drawOk ops D && readsOk ops D l) || (drawOkM ops D (mAl ops D) && match l[0]? with
  | some S => readsOkM ops D l (mAl ops D) S.next
  | none => false)
abbrev OrK := FuncId → List TV → Store → Nat → Option (Bool × Ans)
abbrev CallK (ρ : Type) := FuncId → List TV → Store → Nat → (TV → Store → Nat → Option ρ) → Option ρ
section
variable {ρ : Type}
/-- both ways, where the last value is a truth value -/
def brS (s : SSt) (d : Option Nat) (K : SSt → Option ρ) : Option ρ := match d, s with
  | some _, ⟨(e, .one (.lit (.bool b))) :: env, bx, n⟩ => cond b (K ⟨(e, .one (.lit (.bool true))) :: env, bx, n⟩) (K ⟨(e, .one (.lit (.bool false))) :: env, bx, n⟩)
  | _, s => K s
def stK (P : Program) (N : Nat) (ops : Array Oper) (st : SSt) (o : Oper) (a : Option Ans) (K : SSt → Option Ans → Option ρ) : Option ρ := match stepF P N ops st o a with
  | some q => brS q.1 o.dst fun s => K s a
  | none => none
def ansOf (frees : Bool) (σ : Store) (n : Nat) (r : TV) (σ' : Store) (n' : Nat) : Ans := if frees = true then (if r.free = true then .pure r else .eff (r.ren (n + ·)) (shiftS n σ' ++ σ) (n + n')) else .eff r σ' n'
def evStepK (P : Program) (R : OrK) (F : CallK ρ) (N : Nat) (ops : Array Oper) (st : SSt) (o : Oper) (K : SSt → Option Ans → Option ρ) : Option ρ := match st.guard ops o with
  | none => none
  | some false => stK P N ops st o none K
  | some true => match st.callee o with
    | some (g, ts) => if enterB P g = true then (match R g ts st.boxes st.next with
      | some (b, a) => cond b (stK P N ops st o (some a) K) none
      | none => if TV.frees ts = true then F g ts [] 0 fun r σ' n' => stK P N ops st o (some (ansOf true st.boxes st.next r σ' n')) K
        else F g ts st.boxes st.next fun r σ' n' => stK P N ops st o (some (ansOf false st.boxes st.next r σ' n')) K) else stK P N ops st o none K
    | none => match sopD P st o with
      | some (b, tv) => cond b (if dstB N o = true then brS (st.put o.dst tv) o.dst fun s => K s none else none) none
      | none => match sopL P st o with
        | some (b, tv, bx, n') => cond b (if dstB N o = true then K (({ st with boxes := bx, next := n' } : SSt).put o.dst tv) (some .lst) else none) none
        | none => match stepF P N ops st o none with
          | some q => brS q.1 o.dst fun s => K s none
          | none => stK P N ops st o (some .mem) K
def evOpsK (P : Program) (R : OrK) (F : CallK ρ) (N : Nat) (ops : Array Oper) : List Oper → SSt → (SSt → Option ρ) → Option ρ
  | [], st, K => K st
  | o :: rest, st, K => evStepK P R F N ops st o fun s _ => evOpsK P R F N ops rest s K
def evOpsDK (P : Program) (R : OrK) (F : CallK ρ) (N : Nat) (ops : Array Oper) : List Oper → Nat → SSt → (SSt → List SSt → List (Nat × Ans) → Option ρ) → Option ρ
  | [], _, st, K => K st [st] []
  | o :: rest, i, st, K => evStepK P R F N ops st o fun s a => evOpsDK P R F N ops rest (i + 1) s fun sn l D => K sn (st :: l) (match a with
    | some c => (i, c) :: D
    | none => D)
def itK (f : SSt → (Exit → SSt → Option ρ) → Option ρ) : Nat → SSt → (Exit → SSt → Option ρ) → Option ρ
  | 0, _, _ => none
  | n + 1, st, K => f st fun e s => match e with
    | .normal => itK f n s K
    | e => K e s
/-- what is known of blocks: what must hold, a truth value, where it ends if it is true, if it is not -/
abbrev BlK := Nat → SSt → Option (Bool × Bool × (Exit × SSt) × (Exit × SSt))
def evCK (P : Program) (R : OrK) (L : BlK) (F : CallK ρ) (N : Nat) (n : Nat) : Code → SSt → (Exit → SSt → Option ρ) → Option ρ
  | .skip, st, K => K .normal st
  | .label _, st, K => K .normal st
  | .exit id, st, K => K (.exit id) st
  | .ret, st, K => K .ret st
  | .region _ ops false, st, K => evOpsK P R F N ops ops.toList st fun s => K .normal s
  | .region _ ops true, st, K => evOpsDK P R F N ops ops.toList 0 st fun sn l D => cond (drawB ops D l) (K .normal sn) none
  | .seq x y, st, K => evCK P R L F N n x st fun e s => match e with
    | .normal => evCK P R L F N n y s K
    | e => K e s
  | .cond c x y, st, K => match st.eval c with
    | some (.one (.lit (.bool b))) => cond b (evCK P R L F N n x st K) (evCK P R L F N n y st K)
    | _ => none
  | .block id c, st, K => match L id st with
    | some (p, b, x, y) => cond p (cond b (K x.1 x.2) (K y.1 y.2)) none
    | none => evCK P R L F N n c st fun e s => match e with
      | .exit i => if i = id then K .normal s else K (.exit i) s
      | e => K e s
  | .loop c, st, K => itK (evCK P R L F N n c) n st K
  | _, _, _ => none
def endK (rs : List ResultVar) (P : Program) (K : TV → Store → Nat → Option ρ) (e : Exit) (s : SSt) : Option ρ := match e with
  | .normal | .ret => match resS P s rs with
    | some us => K (retS us) s.boxes s.next
    | none => none
  | _ => none
def evFK (P : Program) (R : OrK) (n : Nat) : Nat → CallK ρ
  | 0 => fun _ _ _ _ _ => none
  | k + 1 => fun f ts σ m K => match P.funcs[f]? with
    | some fn => match fn.body with
      | some c => if Nat.ble ts.length fn.ntmps = true then evCK P R (fun _ _ => none) (evFK P R n k) fn.ntmps n c (startS ts σ m) (endK fn.results.toList P K) else none
      | none => none
    | none => none
def Ans.call : Ans → Bool
  | .pure _ => true
  | .eff _ _ _ => true
  | _ => false
/-- what is known of functions is so -/
def ROk (P : Program) (R : OrK) : Prop := ∀ g ts σ n a, R g ts σ n = some (true, a) → (ask g ts σ n a).ok P ∧ a.call = true
def FKOk (P : Program) (F : CallK ρ) : Prop := ∀ f ts σ m (K : TV → Store → Nat → Option ρ) x, F f ts σ m K = some x → ∃ r σ' m', CallsG P f σ m ts r σ' m' ∧ K r σ' m' = some x
variable {P : Program} {R : OrK} {F : CallK ρ} {N n : Nat} {C : Ctx} {ops : Array Oper} {Q : Exit → SSt → Prop} {x : ρ}
theorem cond_none {b : Bool} {A : Option ρ} (h : cond b A none = some x) : b = true ∧ A = some x := by cases b with
  | true => exact ⟨rfl, h⟩
  | false => cases h
theorem brS_ok {s : SSt} {d : Option Nat} {K : SSt → Option ρ} (h : brS s d K = some x) : K s = some x := by
  unfold brS at h
  split at h
  · rename_i b env bx n
    cases b <;> exact h
  · exact h
theorem stK_ok {st : SSt} {o : Oper} {a : Option Ans} {K : SSt → Option Ans → Option ρ} (h : stK P N ops st o a K = some x) : ∃ s ck, stepF P N ops st o a = some (s, ck) ∧ K s a = some x := by
  unfold stK at h
  split at h
  · rename_i q hq
    exact ⟨q.1, q.2, hq, brS_ok h⟩
  · cases h
theorem stepF_nil {st s' : SSt} {o : Oper} {c : Option Ans} {ck : List Ask1} (hc : c = none ∨ c = some .mem ∨ c = some .lst ∨ st.guard ops o = some false) (hs : stepF P N ops st o c = some (s', ck)) : ck = [] := by
  unfold stepF at hs
  split at hs
  · split at hs
    · exact (Prod.mk.inj (Option.some.inj hs)).2.symm
    · rename_i hg
      rcases hc with rfl | rfl | rfl | hc
      · simp only at hs
        split at hs
        · exact (Prod.mk.inj (Option.some.inj hs)).2.symm
        · split at hs
          · exact (Prod.mk.inj (Option.some.inj hs)).2.symm
          · split at hs
            · exact (Prod.mk.inj (Option.some.inj hs)).2.symm
            · cases hs
      · simp only at hs
        split at hs
        · cases hs
        · obtain ⟨q, _, e⟩ := Option.map_eq_some_iff.1 hs
          exact (Prod.mk.inj e).2.symm
      · simp only at hs
        obtain ⟨q, _, e⟩ := Option.map_eq_some_iff.1 hs
        exact (Prod.mk.inj e).2.symm
      · rw [hg] at hc; cases hc
    · cases hs
  · cases hs
theorem stepF_call {st s' : SSt} {o : Oper} {a : Ans} {ck : List Ask1} {g : FuncId} {ts : List TV} (hg : st.guard ops o = some true) (hc : st.callee o = some (g, ts)) (ha : a.call = true) (hs : stepF P N ops st o (some a) = some (s', ck)) : ck = [ask g ts st.boxes st.next a] := by
  unfold stepF at hs
  rw [hg, hc] at hs
  split at hs
  · cases a with
    | mem => cases ha
    | lst => cases ha
    | pure r =>
      dsimp only at hs
      split at hs
      · exact (Prod.mk.inj (Option.some.inj hs)).2.symm
      · cases hs
    | eff r σ' n' =>
      dsimp only at hs
      split at hs
      · exact (Prod.mk.inj (Option.some.inj hs)).2.symm
      · cases hs
  · cases hs
theorem ansOf_ok {g : FuncId} {ts : List TV} {σ σ' : Store} {n n' : Nat} {r : TV} {fr : Bool} (hf : fr = true → TV.frees ts = true) (h : CallsG P g (if fr = true then [] else σ) (if fr = true then 0 else n) ts r σ' n') : (ask g ts σ n (ansOf fr σ n r σ' n')).ok P ∧ (ansOf fr σ n r σ' n').call = true := by
  cases fr with
  | true =>
    unfold ansOf
    simp only [if_true] at h ⊢
    split
    · rename_i hr; exact ⟨callsTo_of_empty h (hf rfl) hr, rfl⟩
    · exact ⟨calls_shift h (hf rfl) σ n, rfl⟩
  | false =>
    unfold ansOf
    simp only [Bool.false_eq_true, if_false] at h ⊢
    exact ⟨h, rfl⟩
theorem evStepK_ok (hR : ROk P R) (hF : FKOk P F) {st : SSt} {o : Oper} {K : SSt → Option Ans → Option ρ} (h : evStepK P R F N ops st o K = some x) : ∃ s a ck, stepF P N ops st o a = some (s, ck) ∧ (∀ q ∈ ck, q.ok P) ∧ K s a = some x := by
  unfold evStepK at h
  split at h
  · cases h
  · rename_i hg
    obtain ⟨s, ck, h1, h2⟩ := stK_ok h
    exact ⟨s, none, ck, h1, fun q hq => by rw [stepF_nil (.inl rfl) h1] at hq; simp at hq, h2⟩
  · rename_i hg
    split at h
    · rename_i g ts hc
      split at h
      rotate_left
      · obtain ⟨s, ck, h1, h2⟩ := stK_ok h
        exact ⟨s, none, ck, h1, fun q hq => by rw [stepF_nil (.inl rfl) h1] at hq; simp at hq, h2⟩
      split at h
      · rename_i b a hr
        obtain ⟨rfl, h⟩ := cond_none h
        obtain ⟨hk, hne⟩ := hR g ts st.boxes st.next a hr
        obtain ⟨s, ck, h1, h2⟩ := stK_ok h
        refine ⟨s, some a, ck, h1, fun q hq => ?_, h2⟩
        rw [stepF_call hg hc hne h1] at hq
        simp at hq
        subst hq
        exact hk
      · split at h
        · rename_i hfr
          obtain ⟨r, σ', n', hcl, h⟩ := hF _ _ _ _ _ _ h
          obtain ⟨hk, hne⟩ := ansOf_ok (σ := st.boxes) (n := st.next) (fr := true) (fun _ => hfr) hcl
          obtain ⟨s, ck, h1, h2⟩ := stK_ok h
          refine ⟨s, _, ck, h1, fun q hq => ?_, h2⟩
          rw [stepF_call hg hc hne h1] at hq
          simp at hq
          subst hq
          exact hk
        · obtain ⟨r, σ', n', hcl, h⟩ := hF _ _ _ _ _ _ h
          obtain ⟨hk, hne⟩ := ansOf_ok (σ := st.boxes) (n := st.next) (fr := false) (fun h => by cases h) hcl
          obtain ⟨s, ck, h1, h2⟩ := stK_ok h
          refine ⟨s, _, ck, h1, fun q hq => ?_, h2⟩
          rw [stepF_call hg hc hne h1] at hq
          simp at hq
          subst hq
          exact hk
    · split at h
      · rename_i b tv hd
        obtain ⟨rfl, h'⟩ := cond_none h
        split at h'
        · rename_i hdst
          refine ⟨st.put o.dst tv, none, [], ?_, fun q hq => by simp at hq, brS_ok h'⟩
          unfold stepF
          rw [if_pos hdst, hg]
          simp only [sopW_D hd rfl]
        · cases h'
      · split at h
        · rename_i b tv bx n' hl
          obtain ⟨rfl, h'⟩ := cond_none h
          split at h'
          · rename_i hdst
            refine ⟨_, some .lst, [], ?_, fun q hq => by simp at hq, h'⟩
            unfold stepF
            rw [if_pos hdst, hg]
            simp only [sopL1, hl]
            rfl
          · cases h'
        · split at h
          · rename_i q hq
            exact ⟨q.1, none, q.2, hq, fun a ha => by rw [stepF_nil (.inl rfl) hq] at ha; simp at ha, brS_ok h⟩
          · obtain ⟨s, ck, h1, h2⟩ := stK_ok h
            exact ⟨s, some .mem, ck, h1, fun q hq => by rw [stepF_nil (.inr (.inl rfl)) h1] at hq; simp at hq, h2⟩
theorem evOpsK_ok (hR : ROk P R) (hF : FKOk P F) : ∀ {rest : List Oper} {st : SSt} {K : SSt → Option ρ}, evOpsK P R F N ops rest st K = some x → ∃ sn, LexR P N ops rest st sn ∧ K sn = some x
  | [], st, K, h => ⟨st, .nil, h⟩
  | o :: rest, st, K, h => by
    obtain ⟨s, a, ck, h1, h2, h3⟩ := evStepK_ok hR hF h
    obtain ⟨sn, h4, h5⟩ := evOpsK_ok hR hF h3
    exact ⟨sn, .cons h1 h2 h4, h5⟩
/-- a run, told by its states and answers -/
def DRun (P : Program) (N : Nat) (ops : Array Oper) (rest : List Oper) (i : Nat) (st sn : SSt) (l : List SSt) (D : List (Nat × Ans)) : Prop :=
  l.length = rest.length + 1 ∧ l[0]? = some st ∧ l[rest.length]? = some sn ∧ (∀ k v, (k, v) ∈ D → i ≤ k) ∧ ∀ k o, rest[k]? = some o → ∃ s s', l[k]? = some s ∧ l[k + 1]? = some s' ∧ ∃ ck, stepF P N ops s o (D.lookup (i + k)) = some (s', ck) ∧ ∀ q ∈ ck, q.ok P
theorem DRun.cons {o : Oper} {rest : List Oper} {i : Nat} {st s sn : SSt} {a : Option Ans} {ck : List Ask1} {l : List SSt} {D' : List (Nat × Ans)} (c1 : stepF P N ops st o a = some (s, ck)) (c2 : ∀ q ∈ ck, q.ok P) (h : DRun P N ops rest (i + 1) s sn l D') :
    DRun P N ops (o :: rest) i st sn (st :: l) (match a with
      | some c => (i, c) :: D'
      | none => D') := by
  obtain ⟨a1, a2, a3, a4, a5⟩ := h
  generalize hD : (match a with
      | some c => (i, c) :: D'
      | none => D') = D
  have hlk0 : D'.lookup i = none := by
    have : ∀ (C' : List (Nat × Ans)), (∀ k v, (k, v) ∈ C' → i + 1 ≤ k) → C'.lookup i = none := by
      intro C'
      induction C' with
      | nil => intro _; rfl
      | cons x C' ihC =>
        intro hx
        obtain ⟨k, v⟩ := x
        rw [List.lookup_cons]
        have h1 := hx k v (by simp)
        have : (i == k) = false := by simp; omega
        rw [this]
        exact ihC fun k v h => hx k v (by simp [h])
    exact this D' a4
  have hlook : D.lookup i = a ∧ ∀ k, D.lookup (i + 1 + k) = D'.lookup (i + 1 + k) := by
    cases a with
    | none => subst hD; exact ⟨hlk0, fun k => rfl⟩
    | some c =>
      subst hD
      refine ⟨by rw [List.lookup_cons]; simp, fun k => ?_⟩
      rw [List.lookup_cons]
      have : (i + 1 + k == i) = false := by simp; omega
      rw [this]
  refine ⟨by simp [a1], rfl, by simpa using a3, fun k v h => ?_, fun k p hp => ?_⟩
  · have : (k, v) ∈ D' ∨ k = i := by
      cases a with
      | none => subst hD; exact .inl h
      | some c =>
        subst hD
        rcases List.mem_cons.1 h with e | h
        · exact .inr (Prod.mk.inj e).1
        · exact .inl h
    rcases this with h | h
    · have := a4 k v h; omega
    · omega
  · cases k with
    | zero =>
      simp at hp
      subst hp
      refine ⟨st, s, rfl, by simpa using a2, ck, ?_, c2⟩
      rw [Nat.add_zero, hlook.1]
      exact c1
    | succ k =>
      obtain ⟨t, t', b1, b2, b3⟩ := a5 k p (by simpa using hp)
      refine ⟨t, t', by simpa using b1, by simpa using b2, ?_⟩
      rw [show i + (k + 1) = i + 1 + k by omega, hlook.2]
      exact b3
theorem evOpsDK_ok (hR : ROk P R) (hF : FKOk P F) : ∀ {rest : List Oper} {i : Nat} {st : SSt} {K : SSt → List SSt → List (Nat × Ans) → Option ρ}, evOpsDK P R F N ops rest i st K = some x → ∃ sn l D, DRun P N ops rest i st sn l D ∧ K sn l D = some x
  | [], i, st, K, h => ⟨st, [st], [], ⟨rfl, rfl, rfl, fun k v h => by simp at h, fun k o h => by simp at h⟩, h⟩
  | o :: rest, i, st, K, h => by
    obtain ⟨s, a, ck, h1, h2, h3⟩ := evStepK_ok hR hF h
    obtain ⟨sn, l, D, h4, h5⟩ := evOpsDK_ok hR hF h3
    exact ⟨sn, _, _, .cons h1 h2 h4, h5⟩
theorem SW.drun {id : Nat} {st sn : SSt} {l : List SSt} {D : List (Nat × Ans)} (hm : P.follows .mixedOrders = true) (e : DRun P N ops ops.toList 0 st sn l D) (hd : drawOk ops D = true) (hr : readsOk ops D l = true) (h : Q .normal sn) :
    SW P N C (.region id ops true) Q st := by
  obtain ⟨a1, a2, a3, a4, a5⟩ := e
  have hget : ∀ k t, l[k]? = some t → l.getD k st = t := fun k t h => by rw [List.getD_eq_getElem?_getD, h]; rfl
  refine SW.draw D (fun k => l.getD k st) hm hd (hget 0 st a2) (fun k o ho => ?_) (fun i o ho hv id hid m hmm hp => ?_) (by rw [Array.length_toList] at a3; rw [hget _ _ a3]; exact h)
  · obtain ⟨s, s', b1, b2, b3⟩ := a5 k o (by rw [Array.getElem?_toList]; exact ho)
    rw [hget _ _ b1, hget _ _ b2]
    rw [Nat.zero_add] at b3
    exact b3
  · have hi := (Array.getElem?_eq_some_iff.1 ho).1
    have hlt : ∀ k, k ≤ ops.size → ∃ t, l[k]? = some t := fun k hk => ⟨_, List.getElem?_eq_getElem (by rw [a1, Array.length_toList]; omega)⟩
    obtain ⟨S, hS⟩ := hlt i (by omega)
    obtain ⟨T, hT⟩ := hlt m hmm
    rw [hget _ _ hS] at hid ⊢
    rw [hget _ _ hT]
    have h1 := List.all_eq_true.1 hr i (List.mem_range.2 hi)
    rw [ho, hS] at h1
    dsimp only at h1
    rw [hid] at h1
    dsimp only at h1
    have h2 := List.all_eq_true.1 h1 m (List.mem_range.2 (by omega))
    rw [hp, hT] at h2
    simp only [Bool.not_true, Bool.false_or, Bool.or_eq_true] at h2
    have hst' : ∀ k o, ops[k]? = some o → ∃ s s', l[k]? = some s ∧ l[k + 1]? = some s' ∧ ∃ ck, stepF P N ops s o (D.lookup k) = some (s', ck) := fun k o ho => by
      obtain ⟨s, s', b1, b2, ck, b3, _⟩ := a5 k o (by rw [Array.getElem?_toList]; exact ho)
      rw [Nat.zero_add] at b3
      exact ⟨s, s', b1, b2, ck, b3⟩
    rcases h2 with h2 | h2
    · split at h2
      · rename_i him
        exact kept_ok hst' hmm h2 (m - i) (by omega) S T hS (by rw [show i + (m - i) = m by omega]; exact hT)
      · rename_i him
        exact (kept_ok hst' (Nat.le_of_lt hi) h2 (i - m) (by omega) T S hT (by rw [show m + (i - m) = i by omega]; exact hS)).symm
    · exact rowSame_eq h2
theorem SW.drunM {id M : Nat} {st sn : SSt} {l : List SSt} {D : List (Nat × Ans)} (hm : P.follows .mixedOrders = true) (e : DRun P N ops ops.toList 0 st sn l D) (hd : drawOkM ops D M = true) (hr : (match l[0]? with
    | some S => readsOkM ops D l M S.next
    | none => false) = true) (h : Q .normal sn) : SW P N C (.region id ops true) Q st := by
  obtain ⟨a1, a2, a3, a4, a5⟩ := e
  rw [a2] at hr
  dsimp only at hr
  have hget : ∀ k t, l[k]? = some t → l.getD k st = t := fun k t h => by rw [List.getD_eq_getElem?_getD, h]; rfl
  have hM : M ≤ ops.size := by
    unfold drawOkM at hd
    simp only [Bool.and_eq_true] at hd
    exact Nat.le_of_ble_eq_true hd.1.1.1.1
  have hlt : ∀ k, k ≤ ops.size → ∃ t, l[k]? = some t := fun k hk => ⟨_, List.getElem?_eq_getElem (by rw [a1, Array.length_toList]; omega)⟩
  have hst' : ∀ k o, ops[k]? = some o → ∃ s s', l[k]? = some s ∧ l[k + 1]? = some s' ∧ ∃ ck, stepF P N ops s o (D.lookup k) = some (s', ck) := fun k o ho => by
    obtain ⟨s, s', b1, b2, ck, b3, _⟩ := a5 k o (by rw [Array.getElem?_toList]; exact ho)
    rw [Nat.zero_add] at b3
    exact ⟨s, s', b1, b2, ck, b3⟩
  have hrow : ∀ i S, l[i]? = some S → i < ops.size → ∀ id m, m ≤ ops.size → rowAt ops D l S id i m = true → (l.getD m st).boxes.lookup id = S.boxes.lookup id := fun i S hS hi id m hmm h2 => by
    obtain ⟨T, hT⟩ := hlt m hmm
    rw [hget _ _ hT]
    unfold rowAt at h2
    rw [hT] at h2
    simp only [Bool.or_eq_true] at h2
    rcases h2 with h2 | h2
    · split at h2
      · rename_i him
        exact kept_ok hst' hmm h2 (m - i) (by omega) S T hS (by rw [show i + (m - i) = m by omega]; exact hT)
      · rename_i him
        exact (kept_ok hst' (Nat.le_of_lt hi) h2 (i - m) (by omega) T S hT (by rw [show m + (i - m) = i by omega]; exact hS)).symm
    · exact rowSame_eq h2
  have hread : ∀ i o, ops[i]? = some o → ∀ id, (l.getD i st).reads o = some id → (∃ S, l[i]? = some S ∧ l.getD i st = S) ∧ ((List.range ops.size).any (fun j => effB ops D j && !alB ops D j && edgeB o j) || (rowAt ops D l (l.getD i st) id i M && (Nat.blt id st.next || (List.range ops.size).any fun j => alB ops D j && id == st.next + rk ops D j && pathB ops 8 i j))) = true ∧
      ((List.range (ops.size + 1)).all fun m => Nat.ble m M || !possB ops D i o m || rowAt ops D l (l.getD i st) id i m) = true := fun i o ho id hid => by
    have hi := (Array.getElem?_eq_some_iff.1 ho).1
    obtain ⟨S, hS⟩ := hlt i (by omega)
    have h1 := List.all_eq_true.1 hr i (List.mem_range.2 hi)
    rw [hget _ _ hS] at hid ⊢
    rw [ho, hS] at h1
    dsimp only at h1
    rw [hid] at h1
    dsimp only at h1
    rw [Bool.and_eq_true] at h1
    exact ⟨⟨S, hS, rfl⟩, h1.1, h1.2⟩
  refine SW.drawM D (fun k => l.getD k st) M hm hd (hget 0 st a2) (fun k o ho => ?_) (fun i o ho hv id hid hno => ?_) (fun i o ho hv id hid m hMm hmm hp => ?_) (by rw [Array.length_toList] at a3; rw [hget _ _ a3]; exact h)
  · obtain ⟨s, s', b1, b2, b3⟩ := a5 k o (by rw [Array.getElem?_toList]; exact ho)
    rw [hget _ _ b1, hget _ _ b2]
    rw [Nat.zero_add] at b3
    exact b3
  · have hi := (Array.getElem?_eq_some_iff.1 ho).1
    obtain ⟨⟨S, hS, hSe⟩, h1, _⟩ := hread i o ho id hid
    rw [Bool.or_eq_true] at h1
    rcases h1 with h1 | h1
    · exfalso
      obtain ⟨j, _, hj⟩ := List.any_eq_true.1 h1
      simp only [Bool.and_eq_true, Bool.not_eq_true'] at hj
      rw [hno j hj.1.1 hj.1.2] at hj
      exact absurd hj.2 (by decide)
    · rw [Bool.and_eq_true] at h1
      refine ⟨?_, ?_⟩
      · have := hrow i (l.getD i st) (by rw [hSe]; exact hS) hi id M hM h1.1
        exact this
      · have h2 := h1.2
        rw [Bool.or_eq_true] at h2
        rcases h2 with h2 | h2
        · exact .inl (by simpa using h2)
        · obtain ⟨j, _, hj⟩ := List.any_eq_true.1 h2
          simp only [Bool.and_eq_true, beq_iff_eq] at hj
          exact .inr ⟨j, hj.1.1, hj.1.2, hj.2⟩
  · have hi := (Array.getElem?_eq_some_iff.1 ho).1
    obtain ⟨⟨S, hS, hSe⟩, _, h1⟩ := hread i o ho id hid
    have h2 := List.all_eq_true.1 h1 m (List.mem_range.2 (by omega))
    rw [hp] at h2
    have e1 : Nat.ble m M = false := by
      rw [Bool.eq_false_iff]; intro h; have := Nat.le_of_ble_eq_true h; omega
    rw [e1] at h2
    simp only [Bool.not_true, Bool.false_or] at h2
    exact hrow i (l.getD i st) (by rw [hSe]; exact hS) hi id m hmm h2
abbrev Ex (e : Exit) (s : SSt) : Exit → SSt → Prop := fun e2 s2 => e2 = e ∧ s2 = s
inductive LoopT (P : Program) (N z : Nat) (c : Code) : Nat → SSt → Exit → SSt → Prop
  | done {k : Nat} {st s : SSt} {e : Exit} (h : ∀ C : Ctx, C.n0 = z → SW P N C c (Ex e s) st) (he : e ≠ .normal) : LoopT P N z c (k + 1) st e s
  | more {k : Nat} {st s1 s : SSt} {e : Exit} (h : ∀ C : Ctx, C.n0 = z → SW P N C c (Ex .normal s1) st) (hr : LoopT P N z c k s1 e s) : LoopT P N z c (k + 1) st e s
theorem LoopT.sw {c : Code} {z k : Nat} {st s : SSt} {e : Exit} (h : LoopT P N z c k st e s) (C : Ctx) (hC : C.n0 = z) : SW P N C (.loop c) (Ex e s) st := by
  refine SW.loop1 (fun k s' => LoopT P N z c k s' e s) k h fun k s' hk => ?_
  cases hk with
  | done h he =>
    refine (h C hC).mono ?_
    rintro e2 s2 ⟨rfl, rfl⟩
    cases e2 with
    | normal => exact absurd rfl he
    | _ => exact ⟨rfl, rfl⟩
  | more h hr =>
    refine (h C hC).mono ?_
    rintro e2 s2 ⟨rfl, rfl⟩
    exact ⟨_, Nat.lt_succ_self _, hr⟩
theorem itK_ok {c : Code} {z : Nat} {f : SSt → (Exit → SSt → Option ρ) → Option ρ} (hf : ∀ st (K : Exit → SSt → Option ρ) x, f st K = some x → ∃ e s, (∀ C : Ctx, C.n0 = z → SW P N C c (Ex e s) st) ∧ K e s = some x) : ∀ {n : Nat} {st : SSt} {K : Exit → SSt → Option ρ}, itK f n st K = some x → ∃ e s, LoopT P N z c n st e s ∧ K e s = some x
  | 0, st, K, h => by cases h
  | n + 1, st, K, h => by
    obtain ⟨e1, s1, h1, h2⟩ := hf _ _ _ h
    cases e1 with
    | normal =>
      obtain ⟨e, s, h3, h4⟩ := itK_ok hf h2
      exact ⟨e, s, .more h1 h3, h4⟩
    | _ => exact ⟨_, _, .done h1 (by simp), h2⟩
/-- what is known of the blocks of code is so -/
def LOk (P : Program) (N z : Nat) (L : BlK) : Code → Prop
  | .seq x y => LOk P N z L x ∧ LOk P N z L y
  | .cond _ x y => LOk P N z L x ∧ LOk P N z L y
  | .block id c => (∀ st b x y, L id st = some (true, b, x, y) → ∀ C : Ctx, C.n0 = z → SW P N C (.block id c) (Ex (cond b x y).1 (cond b x y).2) st) ∧ LOk P N z L c
  | .loop c => LOk P N z L c
  | _ => True
theorem LOk.none {z : Nat} : ∀ c : Code, LOk P N z (fun _ _ => none) c
  | .seq x y => ⟨LOk.none x, LOk.none y⟩
  | .cond _ x y => ⟨LOk.none x, LOk.none y⟩
  | .block id c => ⟨fun st b x y h => (by cases h), LOk.none c⟩
  | .loop c => LOk.none c
  | .skip => trivial
  | .label _ => trivial
  | .exit _ => trivial
  | .ret => trivial
  | .region _ _ _ => trivial
  | .rangeFunc _ _ _ _ => trivial
  | .scope _ => trivial
  | .goto _ => trivial
  | .refuse _ => trivial
theorem evCK_ok {z : Nat} {L : BlK} (hR : ROk P R) (hF : FKOk P F) (hm : P.follows .mixedOrders = true) : ∀ (c : Code) (hL : LOk P N z L c) {st : SSt} {K : Exit → SSt → Option ρ} {x : ρ}, evCK P R L F N n c st K = some x → ∃ e s, (∀ C : Ctx, C.n0 = z → SW P N C c (Ex e s) st) ∧ K e s = some x
  | .skip, hL, st, K, x, h => ⟨_, _, fun C hC => SW.skip ⟨rfl, rfl⟩, h⟩
  | .label _, hL, st, K, x, h => ⟨_, _, fun C hC => SW.label ⟨rfl, rfl⟩, h⟩
  | .exit _, hL, st, K, x, h => ⟨_, _, fun C hC => SW.exit ⟨rfl, rfl⟩, h⟩
  | .ret, hL, st, K, x, h => ⟨_, _, fun C hC => SW.ret ⟨rfl, rfl⟩, h⟩
  | .region _ ops false, hL, st, K, x, h => by
    simp only [evCK] at h
    obtain ⟨sn, h1, h2⟩ := evOpsK_ok hR hF h
    exact ⟨_, sn, fun C hC => SW.reg rfl ⟨sn, h1, rfl, rfl⟩, h2⟩
  | .region _ ops true, hL, st, K, x, h => by
    simp only [evCK] at h
    obtain ⟨sn, l, D, h1, h2⟩ := evOpsDK_ok hR hF h
    obtain ⟨hb, h2⟩ := cond_none h2
    unfold drawB at hb
    rw [Bool.or_eq_true] at hb
    rcases hb with hb | hb
    · rw [Bool.and_eq_true] at hb
      exact ⟨_, sn, fun C hC => SW.drun hm h1 hb.1 hb.2 ⟨rfl, rfl⟩, h2⟩
    · rw [Bool.and_eq_true] at hb
      exact ⟨_, sn, fun C hC => SW.drunM hm h1 hb.1 hb.2 ⟨rfl, rfl⟩, h2⟩
  | .seq a b, hL, st, K, x, h => by
    simp only [evCK] at h
    obtain ⟨e1, s1, h1, h2⟩ := evCK_ok hR hF hm a hL.1 h
    cases e1 with
    | normal =>
      obtain ⟨e, s, h3, h4⟩ := evCK_ok hR hF hm b hL.2 h2
      refine ⟨e, s, fun C hC => SW.seq ((h1 C hC).mono ?_), h4⟩
      rintro e2 s2 ⟨rfl, rfl⟩
      exact h3 C hC
    | _ =>
      refine ⟨_, _, fun C hC => SW.seq ((h1 C hC).mono ?_), h2⟩
      rintro e2 s2 ⟨rfl, rfl⟩
      exact ⟨rfl, rfl⟩
  | .cond c a b, hL, st, K, x, h => by
    simp only [evCK] at h
    split at h
    · rename_i t hc
      cases t with
      | true =>
        obtain ⟨e, s, h1, h2⟩ := evCK_ok hR hF hm a hL.1 h
        exact ⟨e, s, fun C hC => SW.cond hc (by rw [if_pos rfl]; exact h1 C hC), h2⟩
      | false =>
        obtain ⟨e, s, h1, h2⟩ := evCK_ok hR hF hm b hL.2 h
        exact ⟨e, s, fun C hC => SW.cond hc (by rw [if_neg (by decide)]; exact h1 C hC), h2⟩
    · cases h
  | .block id c, hL, st, K, x, h => by
    simp only [evCK] at h
    split at h
    · rename_i pr b p q hl
      obtain ⟨rfl, h⟩ := cond_none h
      cases b with
      | true => exact ⟨_, _, hL.1 st true p q hl, h⟩
      | false => exact ⟨_, _, hL.1 st false p q hl, h⟩
    obtain ⟨e1, s1, h1, h2⟩ := evCK_ok hR hF hm c hL.2 h
    cases e1 with
    | exit i =>
      dsimp only at h2
      by_cases hi : i = id
      · rw [if_pos hi] at h2
        refine ⟨.normal, s1, fun C hC => SW.block ((h1 C hC).mono ?_), h2⟩
        rintro e2 s2 ⟨rfl, rfl⟩
        simp only [SIn]
        rw [if_pos hi]
        exact ⟨rfl, rfl⟩
      · rw [if_neg hi] at h2
        refine ⟨.exit i, s1, fun C hC => SW.block ((h1 C hC).mono ?_), h2⟩
        rintro e2 s2 ⟨rfl, rfl⟩
        simp only [SIn]
        rw [if_neg hi]
        exact ⟨rfl, rfl⟩
    | _ =>
      refine ⟨_, s1, fun C hC => SW.block ((h1 C hC).mono ?_), h2⟩
      rintro e2 s2 ⟨rfl, rfl⟩
      exact ⟨rfl, rfl⟩
  | .loop c, hL, st, K, x, h => by
    simp only [evCK] at h
    obtain ⟨e, s, h1, h2⟩ := itK_ok (fun st K x h => evCK_ok hR hF hm c hL h) h
    exact ⟨e, s, fun C hC => h1.sw C hC, h2⟩
  | .rangeFunc _ _ _ _, _, _, _, _, h => by simp [evCK] at h
  | .scope _, _, _, _, _, h => by simp [evCK] at h
  | .goto _, _, _, _, _, h => by simp [evCK] at h
  | .refuse _, _, _, _, _, h => by simp [evCK] at h
theorem evFK_ok (hR : ROk P R) (hm : P.follows .mixedOrders = true) : ∀ k, FKOk (ρ := ρ) P (evFK P R n k)
  | 0, f, ts, σ, m, K, x, h => by simp [evFK] at h
  | k + 1, f, ts, σ, m, K, x, h => by
    simp only [evFK] at h
    split at h
    rotate_left
    · cases h
    rename_i fn hf
    split at h
    rotate_left
    · cases h
    rename_i c hb
    split at h
    rotate_left
    · cases h
    rename_i hle
    obtain ⟨e, s, h1, h2⟩ := evCK_ok hR (evFK_ok hR hm k) hm c (LOk.none (z := m) c) h
    have fin : ∀ us, (e = .normal ∨ e = .ret) → resS P s fn.results.toList = some us → CallsG P f σ m ts (retS us) s.boxes s.next := by
      intro us he hus
      refine callsG_of hf hb (Nat.le_of_ble_eq_true hle) fun C hC => (h1 C hC).mono ?_
      rintro e2 s2 ⟨rfl, rfl⟩
      exact ⟨he, by rw [hus]; rfl, fun i row h => h, Nat.le_refl _⟩
    unfold endK at h2
    split at h2
    · split at h2
      · rename_i us hus
        exact ⟨_, _, _, fin us (.inl rfl) hus, h2⟩
      · cases h2
    · split at h2
      · rename_i us hus
        exact ⟨_, _, _, fin us (.inr rfl) hus, h2⟩
      · cases h2
    · cases h2
/-- a function, what is known of its loops given -/
def evGK (P : Program) (R : OrK) (L : BlK) (n k : Nat) : CallK ρ := fun f ts σ m K => match P.funcs[f]? with
  | some fn => match fn.body with
    | some c => if Nat.ble ts.length fn.ntmps = true then evCK P R L (evFK P R n k) fn.ntmps n c (startS ts σ m) (endK fn.results.toList P K) else none
    | none => none
  | none => none
theorem evGK_ok {L : BlK} {f : FuncId} {fn : Func} {c : Code} {ts : List TV} {σ : Store} {m k : Nat} {K : TV → Store → Nat → Option ρ} (hR : ROk P R) (hm : P.follows .mixedOrders = true) (hf : P.funcs[f]? = some fn) (hb : fn.body = some c) (hL : LOk P fn.ntmps m L c) (h : evGK P R L n k f ts σ m K = some x) :
    ∃ r σ' m', CallsG P f σ m ts r σ' m' ∧ K r σ' m' = some x := by
  unfold evGK at h
  rw [hf] at h
  dsimp only at h
  rw [hb] at h
  dsimp only at h
  split at h
  rotate_left
  · cases h
  rename_i hle
  obtain ⟨e, s, h1, h2⟩ := evCK_ok hR (evFK_ok hR hm k) hm c hL h
  have fin : ∀ us, (e = .normal ∨ e = .ret) → resS P s fn.results.toList = some us → CallsG P f σ m ts (retS us) s.boxes s.next := by
    intro us he hus
    refine callsG_of hf hb (Nat.le_of_ble_eq_true hle) fun C hC => (h1 C hC).mono ?_
    rintro e2 s2 ⟨rfl, rfl⟩
    exact ⟨he, by rw [hus]; rfl, fun i row h => h, Nat.le_refl _⟩
  unfold endK at h2
  split at h2
  · split at h2
    · rename_i us hus
      exact ⟨_, _, _, fin us (.inl rfl) hus, h2⟩
    · cases h2
  · split at h2
    · rename_i us hus
      exact ⟨_, _, _, fin us (.inr rfl) hus, h2⟩
    · cases h2
  · cases h2
/-- what is made of a function's answer: what it hands back comes to stay; dec reads it -/
def finK (dec : TV → Option ρ) (r : TV) (σ : Store) : Option ρ := match finT σ r with
  | some (b, r') => cond b (dec r') none
  | none => none
theorem finK_ok {dec : TV → Option ρ} {f : FuncId} {ts : List TV} {r : TV} {σ' : Store} {m' : Nat} (h1 : CallsG P f [] 0 ts r σ' m') (ht : TV.frees ts = true) (h : finK dec r σ' = some x) : ∃ r', CallsTo P f ts r' ∧ r'.free = true ∧ dec r' = some x := by
  unfold finK at h
  split at h
  · rename_i b r' hf
    obtain ⟨rfl, h⟩ := cond_none h
    obtain ⟨a1, a2⟩ := h1.fin hf
    exact ⟨r', callsTo_of_empty a1 ht a2, a2, h⟩
  · cases h
end
end Go.Proofs.YtbljhngekhgbbaaGreat
namespace Go.Proofs.YtbljhngekhgbbaaGreat
open Go.RowKit
set_option linter.unusedVariables false
set_option linter.unusedSectionVars false
set_option linter.unusedSimpArgs false
theorem LeqT.rep {w : World} {G : Addr → Prop} {β : Ids} : ∀ {ps qs : List TV} {us : List Value}, LeqT ps qs → RepTs w G β ps us → RepTs w G β qs us
  | [], [], us, _, h => h
  | p :: ps, q :: qs, [], _, h => by have := h.1; simp at this
  | p :: ps, q :: qs, u :: us, hl, h => by
    refine .cons_ (hl.1 _ _ _ _ (h.2 0 p u rfl rfl)) (hl.2.rep ⟨by simpa using h.1, fun i t v h1 h2 => h.2 (i + 1) t v (by simpa using h1) (by simpa using h2)⟩)
  | [], q :: qs, us, hl, h => by cases hl
  | p :: ps, [], us, hl, h => by cases hl
theorem TV.Leq.tup {ps qs : List TV} (h : LeqT ps qs) : (TV.tup ps).Leq (.tup qs) := fun w G β v hr => by
  cases hr with
  | tup hl hr =>
    have := h.rep (w := w) (G := G) (β := β) (us := Array.toList _) ⟨by simpa using hl, fun i t v h1 h2 => hr i t v h1 (by simpa using h2)⟩
    exact .tup (by simpa using this.1) fun i t v h1 h2 => this.2 i t v h1 (by simpa using h2)
theorem CallsTo.weak {P : Program} {f : FuncId} {ts ts' : List TV} {r r' : TV} (h : CallsTo P f ts' r) (ha : LeqT ts ts') (hr : r.Leq r') : CallsTo P f ts r' := fun σ n w H β args hM hargs => by
  refine (h σ n w H β args hM (ha.rep hargs)).mono ?_
  rintro e w' ⟨v, β', rfl, hs, hv⟩
  exact ⟨v, β', rfl, hs, hr _ _ _ _ hv⟩
/-- a kind of data: how it is told, how it is read -/
structure Dk (α : Type) where
  enc : α → TV
  dec : TV → Option α
  leq : ∀ {t a}, dec t = some a → t.Leq (enc a)
def one? : TV → Option PV
  | .one p => some p
  | _ => none
theorem one?_eq {t : TV} {p : PV} (h : one? t = some p) : t = .one p := by cases t <;> simp [one?] at h; rw [h]
def agg? : TV → Option (List PV)
  | .agg p => some p
  | _ => none
theorem agg?_eq {t : TV} {p : List PV} (h : agg? t = some p) : t = .agg p := by cases t <;> simp [agg?] at h; rw [h]
def Dk.ofP {α : Type} (enc : α → PV) (dec : PV → Option α) (leq : ∀ {p a}, dec p = some a → p.Leq (enc a)) : Dk α where
  enc a := .one (enc a)
  dec t := (one? t).bind dec
  leq h := by
    obtain ⟨p, h1, h2⟩ := Option.bind_eq_some_iff.1 h
    rw [one?_eq h1]
    exact .one (leq h2)
def kI : Dk Int := .ofP pI dI dI_leq
def kN : Dk Int := .ofP pN dN dN_leq
def kB : Dk Bool := .ofP pB dB dB_leq
def kT : Dk ByteArray := .ofP pT dT dT_leq
def kL (t : Ty) : Dk (List t.El) := .ofP (.dat t) (dl t) dl_leq
def Dk.ofL {α : Type} (enc : α → List PV) (dec : List PV → Option α) (leq : ∀ {p a}, dec p = some a → LeqL p (enc a)) : Dk α where
  enc a := .agg (enc a)
  dec t := (agg? t).bind dec
  leq h := by
    obtain ⟨p, h1, h2⟩ := Option.bind_eq_some_iff.1 h
    rw [agg?_eq h1]
    exact .agg (leq h2)
def kVal : Dk MVal := .ofL encVal dVal dVal_leq
/-- two answers -/
def Dk.two {α γ : Type} (A : Dk α) (B : Dk γ) : Dk (α × γ) where
  enc x := .tup [A.enc x.1, B.enc x.2]
  dec t := match t with
    | .tup [a, b] => (A.dec a).bind fun a => (B.dec b).map fun b => (a, b)
    | _ => none
  leq h := by
    split at h
    · obtain ⟨a, ha, h⟩ := Option.bind_eq_some_iff.1 h
      obtain ⟨b, hb, rfl⟩ := Option.map_eq_some_iff.1 h
      exact .tup ⟨A.leq ha, B.leq hb, trivial⟩
    · cases h
structure Ora (P : Program) where
  f : FuncId
  run : List TV → Option (Bool × TV)
  ok : ∀ ts r, run ts = some (true, r) → CallsTo P f ts r
def oraR {P : Program} (L : List (Ora P)) : OrK := fun g ts _ _ => L.findSome? fun o => if o.f == g then (o.run ts).map fun r => (r.1, .pure r.2) else none
theorem oraR_ok {P : Program} (L : List (Ora P)) : ROk P (oraR L) := by
  intro g ts σ n a h
  unfold oraR at h
  obtain ⟨o, _, h⟩ := List.exists_of_findSome?_eq_some h
  split at h
  · rename_i ho
    obtain ⟨⟨b, r⟩, hr, h⟩ := Option.map_eq_some_iff.1 h
    simp only [Prod.mk.injEq] at h
    obtain ⟨rfl, rfl⟩ := h
    have : o.f = g := by simpa using ho
    subst this
    exact ⟨o.ok ts r hr, rfl⟩
  · cases h
section
variable {P : Program} {f : FuncId} {α γ δ ε ζ ξ η θ κ : Type}
def Ora.of1 {A : Dk α} {Z : Dk ζ} {s : α → ζ} (h : ∀ a, CallsTo P f [A.enc a] (Z.enc (s a))) : Ora P where
  f := f
  run ts := match ts with
    | [a] => (A.dec a).map fun a => (true, Z.enc (s a))
    | _ => none
  ok ts r e := by
    split at e
    · obtain ⟨a, ha, e⟩ := Option.map_eq_some_iff.1 e
      simp only [Prod.mk.injEq] at e
      obtain ⟨hp, rfl⟩ := e
      exact (h a).weak ⟨A.leq ha, trivial⟩ .rfl
    · cases e
def Ora.of1c {A : Dk α} {Z : Dk ζ} {s : α → ζ} (p : α → Bool) (h : ∀ a, p a = true → CallsTo P f [A.enc a] (Z.enc (s a))) : Ora P where
  f := f
  run ts := match ts with
    | [a] => (A.dec a).map fun a => (p a, Z.enc (s a))
    | _ => none
  ok ts r e := by
    split at e
    · obtain ⟨a, ha, e⟩ := Option.map_eq_some_iff.1 e
      simp only [Prod.mk.injEq] at e
      obtain ⟨hp, rfl⟩ := e
      exact (h a hp).weak ⟨A.leq ha, trivial⟩ .rfl
    · cases e
def Ora.of2 {A : Dk α} {B : Dk γ} {Z : Dk ζ} {s : α → γ → ζ} (h : ∀ a b, CallsTo P f [A.enc a, B.enc b] (Z.enc (s a b))) : Ora P where
  f := f
  run ts := match ts with
    | [a, b] => (A.dec a).bind fun a => (B.dec b).map fun b => (true, Z.enc (s a b))
    | _ => none
  ok ts r e := by
    split at e
    · obtain ⟨a, ha, e⟩ := Option.bind_eq_some_iff.1 e
      obtain ⟨b, hb, e⟩ := Option.map_eq_some_iff.1 e
      simp only [Prod.mk.injEq] at e
      obtain ⟨hp, rfl⟩ := e
      exact (h a b).weak ⟨A.leq ha, B.leq hb, trivial⟩ .rfl
    · cases e
def Ora.of2c {A : Dk α} {B : Dk γ} {Z : Dk ζ} {s : α → γ → ζ} (p : α → γ → Bool) (h : ∀ a b, p a b = true → CallsTo P f [A.enc a, B.enc b] (Z.enc (s a b))) : Ora P where
  f := f
  run ts := match ts with
    | [a, b] => (A.dec a).bind fun a => (B.dec b).map fun b => (p a b, Z.enc (s a b))
    | _ => none
  ok ts r e := by
    split at e
    · obtain ⟨a, ha, e⟩ := Option.bind_eq_some_iff.1 e
      obtain ⟨b, hb, e⟩ := Option.map_eq_some_iff.1 e
      simp only [Prod.mk.injEq] at e
      obtain ⟨hp, rfl⟩ := e
      exact (h a b hp).weak ⟨A.leq ha, B.leq hb, trivial⟩ .rfl
    · cases e
def Ora.of3 {A : Dk α} {B : Dk γ} {D : Dk δ} {Z : Dk ζ} {s : α → γ → δ → ζ} (h : ∀ a b d, CallsTo P f [A.enc a, B.enc b, D.enc d] (Z.enc (s a b d))) : Ora P where
  f := f
  run ts := match ts with
    | [a, b, d] => (A.dec a).bind fun a => (B.dec b).bind fun b => (D.dec d).map fun d => (true, Z.enc (s a b d))
    | _ => none
  ok ts r e := by
    split at e
    · obtain ⟨a, ha, e⟩ := Option.bind_eq_some_iff.1 e
      obtain ⟨b, hb, e⟩ := Option.bind_eq_some_iff.1 e
      obtain ⟨d, hd, e⟩ := Option.map_eq_some_iff.1 e
      simp only [Prod.mk.injEq] at e
      obtain ⟨hp, rfl⟩ := e
      exact (h a b d).weak ⟨A.leq ha, B.leq hb, D.leq hd, trivial⟩ .rfl
    · cases e
def Ora.of5 {A : Dk α} {B : Dk γ} {D : Dk δ} {E : Dk ε} {G : Dk η} {Z : Dk ζ} {s : α → γ → δ → ε → η → ζ} (h : ∀ a b d u4 u5, CallsTo P f [A.enc a, B.enc b, D.enc d, E.enc u4, G.enc u5] (Z.enc (s a b d u4 u5))) : Ora P where
  f := f
  run ts := match ts with
    | [a, b, d, u4, u5] => (A.dec a).bind fun a => (B.dec b).bind fun b => (D.dec d).bind fun d => (E.dec u4).bind fun u4 => (G.dec u5).map fun u5 => (true, Z.enc (s a b d u4 u5))
    | _ => none
  ok ts r e := by
    split at e
    · obtain ⟨a, ha, e⟩ := Option.bind_eq_some_iff.1 e
      obtain ⟨b, hb, e⟩ := Option.bind_eq_some_iff.1 e
      obtain ⟨d, hd, e⟩ := Option.bind_eq_some_iff.1 e
      obtain ⟨u4, hu4, e⟩ := Option.bind_eq_some_iff.1 e
      obtain ⟨u5, hu5, e⟩ := Option.map_eq_some_iff.1 e
      simp only [Prod.mk.injEq] at e
      obtain ⟨hp, rfl⟩ := e
      exact (h a b d u4 u5).weak ⟨A.leq ha, B.leq hb, D.leq hd, E.leq hu4, G.leq hu5, trivial⟩ .rfl
    · cases e
/-- the same, what is known of loops given -/
theorem to_of_loops {ρ : Type} {Z : Dk ρ} {L : List (Ora P)} {B : BlK} {n k : Nat} {ts : List TV} {x : ρ} {fn : Func} {c : Code} (hm : P.follows .mixedOrders = true) (hf : P.funcs[f]? = some fn) (hb : fn.body = some c) (hL : LOk P fn.ntmps 0 B c) (ht : TV.frees ts = true)
    (h : evGK P (oraR L) B n k f ts [] 0 (fun r σ _ => finK Z.dec r σ) = some x) : CallsTo P f ts (Z.enc x) := by
  obtain ⟨r, σ', m', h1, h2⟩ := evGK_ok (oraR_ok L) hm hf hb hL h
  obtain ⟨r', k1, k2, k3⟩ := finK_ok h1 ht h2
  refine k1.weak ?_ (Z.leq k3)
  have : ∀ l : List TV, LeqT l l := by
    intro l
    induction l with
    | nil => trivial
    | cons a l ih => exact ⟨.rfl, ih⟩
  exact this ts
end
section
variable {P : Program} {N : Nat} {C : Ctx} {c : Code} {st s : SSt} {e : Exit} {Q : Exit → SSt → Prop}
end
end Go.Proofs.YtbljhngekhgbbaaGreat
namespace Go.Proofs.YtbljhngekhgbbaaGreat
open Go.RowKit
set_option linter.unusedVariables false
set_option linter.unusedSectionVars false
set_option linter.unusedSimpArgs false
/-- the blocks of code -/
def blks : Code → List (Nat × Code)
  | .seq x y => blks x ++ blks y
  | .cond _ x y => blks x ++ blks y
  | .block id c => (id, c) :: blks c
  | .loop c => blks c
  | _ => []
def loopOf (fn : Func) (id : Nat) : Code := match fn.body with
  | some c => match (blks c).lookup id with
    | some (.loop b) => b
    | _ => .skip
  | none => .skip
section
variable {P : Program} {N n : Nat} {C : Ctx} {L : BlK} {R : OrK}
theorem LOk.of_blks {z : Nat} : ∀ (c : Code), (∀ q ∈ blks c, ∀ st b x y, L q.1 st = some (true, b, x, y) → ∀ C : Ctx, C.n0 = z → SW P N C (.block q.1 q.2) (Ex (cond b x y).1 (cond b x y).2) st) → LOk P N z L c
  | .seq x y, h => ⟨LOk.of_blks x fun q hq => h q (List.mem_append.2 (.inl hq)), LOk.of_blks y fun q hq => h q (List.mem_append.2 (.inr hq))⟩
  | .cond _ x y, h => ⟨LOk.of_blks x fun q hq => h q (List.mem_append.2 (.inl hq)), LOk.of_blks y fun q hq => h q (List.mem_append.2 (.inr hq))⟩
  | .block id c, h => ⟨h (id, c) (List.mem_cons_self ..), LOk.of_blks c fun q hq => h q (List.mem_cons_of_mem _ hq)⟩
  | .loop c, h => LOk.of_blks c h
  | .skip, _ => trivial
  | .label _, _ => trivial
  | .exit _, _ => trivial
  | .ret, _ => trivial
  | .region _ _ _, _ => trivial
  | .rangeFunc _ _ _ _, _ => trivial
  | .scope _, _ => trivial
  | .goto _, _ => trivial
  | .refuse _, _ => trivial
/-- what is known of some blocks alone -/
theorem LOk.of_list {z : Nat} {c : Code} (ids : List Nat) (l : List (Nat × Code)) (hL : ∀ id st, id ∉ ids → L id st = Option.none) (hk : (blks c).filter (fun q => ids.contains q.1) = l)
    (h : ∀ q ∈ l, ∀ st b x y, L q.1 st = some (true, b, x, y) → ∀ C : Ctx, C.n0 = z → SW P N C (.block q.1 q.2) (Ex (cond b x y).1 (cond b x y).2) st) : LOk P N z L c := LOk.of_blks c fun q hq st b x y e => by
  by_cases hm : q.1 ∈ ids
  · exact h q (by rw [← hk]; exact List.mem_filter.2 ⟨hq, by simpa using hm⟩) st b x y e
  · rw [hL _ _ hm] at e; cases e
end
theorem wrap_nat {k : Int} (h0 : 0 ≤ k) (h : k < 9223372036854775808) : IntKind.i64.wrap k = k := by
  have e : k % (2 ^ IntKind.i64.bits : Int) = k := Int.emod_eq_of_lt h0 (by show k < 18446744073709551616; omega)
  unfold IntKind.wrap
  rw [e]
  have : ¬ (k ≥ (2 ^ (IntKind.i64.bits - 1) : Int)) := by show ¬ (k ≥ 9223372036854775808); omega
  simp [this]
end Go.Proofs.YtbljhngekhgbbaaGreat
namespace Go.Proofs.YtbljhngekhgbbaaGreat
open Go.RowKit
set_option linter.unusedVariables false
set_option linter.unusedSectionVars false
set_option linter.unusedSimpArgs false
/-- s says what t says, and perhaps more; m: where t's ids are in s -/
structure SSt.Tells (m : Nat → Nat) (s t : SSt) : Prop where
  env : ∀ x tv, t.get x = some tv → ∃ tv0, s.get x = some tv0 ∧ ∀ w G β v, RepT w G β tv0 v → RepT w G (fun i => β (m i)) tv v
  row : ∀ i row, t.boxes.lookup i = some row → ∃ row0, s.boxes.lookup (m i) = some row0 ∧ ∀ w G β O, row0.Stands w G β O → row.Stands w G (fun i => β (m i)) O
  inj : ∀ i j ri rj, t.boxes.lookup i = some ri → t.boxes.lookup j = some rj → m i = m j → i = j
  far : ∀ i, t.next ≤ i → s.next ≤ m i
/-- whatever stands for s stands for t -/
def SSt.Cov (N z : Nat) (s t : SSt) : Prop := ∀ C : Ctx, C.n0 = z → ∀ β a w, InvC N C β s a w → ∃ β', InvC N C β' t a w
section
variable {P : Program} {N z : Nat} {C : Ctx} {c : Code} {s t u st : SSt} {Q : Exit → SSt → Prop} {e : Exit}
theorem Inv.tells {ds : List Deferred} {W w : World} {X : Nat → Prop} {H : Addr → Prop} {β : Ids} {a : Act} {m : Nat → Nat} (h : Inv ds N W X H β s a w) (hs : s.Tells m t) : Inv ds N W X H (fun i => β (m i)) t a w := by
  have ho : ∀ b, owned (fun i => β (m i)) t.boxes b → owned β s.boxes b := by
    rintro b ⟨id, row, O, h1, h2, h3, h4⟩
    obtain ⟨row0, k1, _⟩ := hs.row _ _ h1
    exact ⟨m id, row0, O, k1, h2, h3, h4⟩
  have hk : ∀ q u, w.cell? q = some u → gOf H β s.boxes q → w.cell? q = some u ∧ gOf H (fun i => β (m i)) t.boxes q := fun q u h1 h2 => ⟨h1, h2.1, fun hb => h2.2 (ho _ hb)⟩
  refine ⟨h.defers, h.size, h.ext, ⟨fun id hi => h.mem.dom _ (hs.far id hi), fun id row hr => ?_, fun i j ri rj Oi Oj hi hj bi bj zi zj e => ?_, h.mem.new, fun p hp => h.mem.inH p (ho _ hp)⟩, fun b hb => h.own b (ho b hb), fun x tv ht => ?_⟩
  · obtain ⟨row0, k1, k2⟩ := hs.row _ _ hr
    obtain ⟨O, h1, h2⟩ := h.mem.row _ _ k1
    exact ⟨O, h1, (k2 _ _ _ _ h2).mono hk⟩
  · obtain ⟨r1, k1, _⟩ := hs.row _ _ hi
    obtain ⟨r2, k2, _⟩ := hs.row _ _ hj
    exact hs.inj i j ri rj hi hj (h.mem.inj _ _ _ _ Oi Oj k1 k2 bi bj zi zj e)
  · obtain ⟨tv0, k1, k2⟩ := hs.env x tv ht
    obtain ⟨v, hv, hr⟩ := h.env x _ k1
    exact ⟨v, hv, (k2 _ _ _ _ hr).mono hk⟩
theorem SSt.Tells.cov {m : Nat → Nat} (h : s.Tells m t) (hz : ∀ i, i < z → m i = i) (hn : z ≤ t.next) : s.Cov N z t := fun C hC β a w hi =>
  ⟨_, hi.1.tells h, fun i hi' => by show β (m i) = _; rw [hz i (by omega)]; exact hi.2.1 i hi', by omega⟩
theorem SSt.Cov.trans (h : s.Cov N z t) (k : t.Cov N z u) : s.Cov N z u := fun C hC β a w hi => by
  obtain ⟨β', h1⟩ := h C hC β a w hi
  exact k C hC β' a w h1
theorem SSt.Cov.refl : s.Cov N z s := fun C hC β a w hi => ⟨β, hi⟩
theorem SW.pre (hz : C.n0 = z) (hc : s.Cov N z t) (h : SW P N C c Q t) : SW P N C c Q s := fun β a w hi => by
  obtain ⟨β', h1⟩ := hc C hz β a w hi
  exact h β' a w h1
theorem SW.post (hz : C.n0 = z) (hc : s.Cov N z t) (h : SW P N C c (Ex e s) st) : SW P N C c (Ex e t) st := fun β a w hi => by
  refine wp_mono (h β a w hi) ?_
  rintro e' a' w' ⟨s', b, h1, rfl, rfl⟩
  obtain ⟨β', h2⟩ := hc C hz b a' w' h1
  exact ⟨t, β', h2, rfl, rfl⟩
/-- an empty slice becomes an own row -/
theorem cov_own {env : List (Nat × TV)} {bx : Store} {n : Nat} (t : Nat) (e : TypeId) (k : Nat) (ht : env.lookup t = some (.one (.sl true []))) : SSt.Cov N z ⟨env, bx, n⟩ ⟨(t, .one (.osl n 0 0)) :: env, (n, .own e k []) :: bx, n + 1⟩ := fun C hC β a w hi => by
  obtain ⟨β', hm, hβ⟩ := app_turn (w' := w) hi.1.mem (d := none) (e := e) (k := k) (rs := []) (O0 := ⟨0, 0, k, true⟩) (.inl rfl) rfl rfl rfl (Nat.le_refl _) (fun _ _ _ => rfl) (fun G' β' hk => .inl ⟨rfl, rfl⟩)
  have h1 := hi.step hm
  refine ⟨β', ⟨h1.1.defers, h1.1.size, h1.1.ext, h1.1.mem, h1.1.own, fun x tv hx => ?_⟩, h1.2⟩
  unfold SSt.get at hx
  rw [List.lookup_cons] at hx
  by_cases e : x = t
  · subst e
    simp at hx
    subst hx
    obtain ⟨v, hv, hr⟩ := hi.1.env x _ ht
    refine ⟨v, hv, ?_⟩
    obtain ⟨A, c, rfl, hc, hxc, -⟩ := hr.sl_
    have := hxc rfl
    subst this
    exact .one (.osl0 hβ rfl)
  · have e' : (x == t) = false := by simpa using e
    rw [e'] at hx
    exact h1.1.env x tv hx
end
/-- cells told as data -/
structure Ck (α : Type) where
  enc : α → List PV
  dec : List PV → Option α
  leq : ∀ {p a}, dec p = some a → LeqL p (enc a)
inductive Slot : Type 1
  | val (t : Nat) (α : Type) (i : Inhabited α) (A : Dk α) (hf : ∀ a, (A.enc a).free = true)   -- a value
  | own (t : Nat) (e : TypeId) (T : Ty)                                -- an own row, by its elements
  | box (t : Nat) (α : Type) (i : Inhabited α) (A : Ck α) (hf : ∀ a, PV.frees (A.enc a) = true)   -- a variable
abbrev Slot.Ty : Slot → Type
  | .val _ α _ _ _ => α
  | .own _ _ T => List T.El
  | .box _ α _ _ _ => α
abbrev DT : List Slot → Type
  | [] => Unit
  | s :: l => s.Ty × DT l
def dfD : (l : List Slot) → DT l
  | [] => ()
  | .val _ _ i _ _ :: l => (i.default, dfD l)
  | .own _ _ T :: l => (([] : List T.El), dfD l)
  | .box _ _ i _ _ :: l => (i.default, dfD l)
def envH : (l : List Slot) → Nat → DT l → List (Nat × TV)
  | [], _, _ => []
  | .val t _ _ A _ :: l, k, d => (t, A.enc d.1) :: envH l k d.2
  | .own t e T :: l, k, d => (t, .one (.osl k 0 (List.length (α := T.El) d.1))) :: envH l (k + 1) d.2
  | .box t _ _ A _ :: l, k, d => (t, .one (.box k 0)) :: envH l (k + 1) d.2
def rowH : (l : List Slot) → Nat → DT l → Store
  | [], _, _ => []
  | .val _ _ _ _ _ :: l, k, d => rowH l k d.2
  | .own t e T :: l, k, d => (k, .lst e T d.1) :: rowH l (k + 1) d.2
  | .box t _ _ A _ :: l, k, d => (k, .var (A.enc d.1)) :: rowH l (k + 1) d.2
def cntH : List Slot → Nat
  | [] => 0
  | .val _ _ _ _ _ :: l => cntH l
  | _ :: l => cntH l + 1
theorem encEl_free : ∀ (t : Ty) (x : t.El), PV.frees (encEl t x) = true := by
  intro t x
  cases t <;> rfl
/-- structs as data -/
def kE (t : Ty) : Dk t.El := .ofL (encEl t) (decEl t) decEl_leq
def cE (t : Ty) : Ck t.El := ⟨encEl t, decEl t, decEl_leq⟩
/-- a function without what it has caught -/
def dF (g : FuncId) : PV → Option Unit
  | .lit (.func (.func h) ⟨[]⟩ ⟨[]⟩) => if h = g then some () else none
  | _ => none
abbrev sI (t : Nat) : Slot := .val t Int ⟨0⟩ kI (fun _ => rfl)
abbrev sB (t : Nat) : Slot := .val t Bool ⟨false⟩ kB (fun _ => rfl)
abbrev sL (t : Nat) (T : Ty) : Slot := .val t (List T.El) ⟨[]⟩ (kL T) (fun _ => rfl)
abbrev sX (t : Nat) (T : Ty) : Slot := .box t T.El ⟨dfl T⟩ (cE T) (encEl_free T)
instance : Inhabited MStamp := ⟨dfl .stamp⟩
instance : Inhabited MSpan := ⟨dfl .span⟩
instance : Inhabited MShard := ⟨dfl .shard⟩
instance : Inhabited MDep := ⟨dfl .dep⟩
instance : Inhabited MOp := ⟨dfl .op⟩
instance : Inhabited MPair := ⟨dfl .pair⟩
instance : Inhabited MWrite := ⟨dfl .write⟩
instance : Inhabited MVal := ⟨⟨false, ⟨0, 0⟩, []⟩⟩
instance : Inhabited MCmd := ⟨dfl .cmd⟩
instance : Inhabited MTold := ⟨dfl .told⟩
instance : Inhabited MAct := ⟨dfl .act⟩
instance : Inhabited MMsg := ⟨dfl .msg⟩
/-- the state that says this -/
def hd (l : List Slot) (d : DT l) : SSt := ⟨envH l 0 d, rowH l 0 d, cntH l⟩
/-- a temporary that leads to an own row: what stands in it -/
def rdO (s : SSt) (t : Nat) (e : TypeId) (T : Ty) : Option (Bool × Nat × List T.El) := match s.get t with
  | some (.one (.osl i 0 n)) => match s.boxes.lookup i with
    | some (.lst e' T' l) => if h : T' = T then (if e' = e then some (Nat.beq n l.length, i, h ▸ l) else none) else none
    | some (.own e' k rows) => if e' = e ∧ k = T.w then (decRows T rows).map fun l => (Nat.beq n l.length, i, l) else none
    | _ => none
  | _ => none
def rdX (s : SSt) (t : Nat) : Option (Nat × List PV) := match s.get t with
  | some (.one (.box i 0)) => match s.boxes.lookup i with
    | some (.var cells) => some (i, cells)
    | _ => none
  | _ => none
def rdH (s : SSt) : (l : List Slot) → Option (Bool × List Nat × DT l)
  | [] => some (true, [], ())
  | .val t _ _ A _ :: l => ((s.get t).bind A.dec).bind fun a => (rdH s l).map fun q => (q.1, q.2.1, (a, q.2.2))
  | .own t e T :: l => (rdO s t e T).bind fun x => (rdH s l).map fun q => (x.1 && q.1, x.2.1 :: q.2.1, (x.2.2, q.2.2))
  | .box t _ _ A _ :: l => (rdX s t).bind fun x => (A.dec x.2).bind fun a => (rdH s l).map fun q => (q.1, x.1 :: q.2.1, (a, q.2.2))
def preH : List Slot → SSt → SSt
  | [], s => s
  | .own t e T :: l, s => preH l (match s.get t with
    | some (.one (.sl true [])) => ⟨(t, .one (.osl s.next 0 0)) :: s.env, (s.next, .own e T.w []) :: s.boxes, s.next + 1⟩
    | _ => s)
  | _ :: l, s => preH l s
def idsB (z : Nat) (ids : List Nat) : Bool := decide ids.Nodup && (List.range z).all (fun i => ids.getD i 0 == i) && Nat.ble z ids.length
def rd (z : Nat) (l : List Slot) (s : SSt) : Option (Bool × DT l) := (rdH (preH l s) l).bind fun q => if idsB z q.2.1 = true then some (q.1, q.2.2) else none
section
variable {N z : Nat} {s t : SSt}
theorem preH_cov : ∀ (l : List Slot) (s : SSt), s.Cov N z (preH l s)
  | [], s => .refl
  | .own t e T :: l, s => by
    unfold preH
    split
    · rename_i h
      exact SSt.Cov.trans (cov_own t e T.w h) (preH_cov l _)
    · exact preH_cov l s
  | .val .. :: l, s => preH_cov l s
  | .box .. :: l, s => preH_cov l s
theorem rdO_ok {t : Nat} {e : TypeId} {T : Ty} {i : Nat} {l : List T.El} (h : rdO s t e T = some (true, i, l)) : s.get t = some (.one (.osl i 0 l.length)) ∧ ∃ row0, s.boxes.lookup i = some row0 ∧ ∀ w G β O, row0.Stands w G β O → (Row.lst e T l).Stands w G β O := by
  unfold rdO at h
  split at h
  rotate_left
  · cases h
  rename_i j n ht
  split at h
  · rename_i e' T' l' hl
    split at h
    rotate_left
    · cases h
    rename_i hT
    subst hT
    split at h
    rotate_left
    · cases h
    rename_i he
    subst he
    simp only [Option.some.injEq, Prod.mk.injEq] at h
    obtain ⟨h1, rfl, rfl⟩ := h
    have : n = l'.length := by simpa using h1
    subst this
    exact ⟨ht, _, hl, fun w G β O h => h⟩
  · rename_i e' k rows hl
    split at h
    rotate_left
    · cases h
    rename_i he
    obtain ⟨rfl, rfl⟩ := he
    obtain ⟨l', hd, h⟩ := Option.map_eq_some_iff.1 h
    simp only [Prod.mk.injEq] at h
    obtain ⟨h1, rfl, rfl⟩ := h
    have : n = l'.length := by simpa using h1
    subst this
    exact ⟨ht, _, hl, fun w G β O h => stands_dec hd h⟩
  · cases h
theorem rdX_ok {t : Nat} {i : Nat} {cells : List PV} (h : rdX s t = some (i, cells)) : s.get t = some (.one (.box i 0)) ∧ s.boxes.lookup i = some (.var cells) := by
  unfold rdX at h
  split at h
  · rename_i j ht
    split at h
    · rename_i cs hl
      cases h
      exact ⟨ht, hl⟩
    · cases h
  · cases h
theorem rdH_len : ∀ {l : List Slot} {b : Bool} {ids : List Nat} {d : DT l}, rdH s l = some (b, ids, d) → ids.length = cntH l
  | [], b, ids, d, h => by cases h; rfl
  | .val t α i A hf :: l, b, ids, d, h => by
    simp only [rdH] at h
    obtain ⟨a, _, h⟩ := Option.bind_eq_some_iff.1 h
    obtain ⟨⟨b', ids', d'⟩, h2, h⟩ := Option.map_eq_some_iff.1 h
    cases h
    show ids'.length = cntH l
    exact rdH_len h2
  | .own t e T :: l, b, ids, d, h => by
    simp only [rdH] at h
    obtain ⟨a, _, h⟩ := Option.bind_eq_some_iff.1 h
    obtain ⟨⟨b', ids', d'⟩, h2, h⟩ := Option.map_eq_some_iff.1 h
    cases h
    rw [List.length_cons, rdH_len h2]
    rfl
  | .box t α i A hf :: l, b, ids, d, h => by
    simp only [rdH] at h
    obtain ⟨x, _, h⟩ := Option.bind_eq_some_iff.1 h
    obtain ⟨a, _, h⟩ := Option.bind_eq_some_iff.1 h
    obtain ⟨⟨b', ids', d'⟩, h2, h⟩ := Option.map_eq_some_iff.1 h
    cases h
    rw [List.length_cons, rdH_len h2]
    rfl
theorem lookup_cons' {α : Type} {x y : Nat} {v a : α} {l : List (Nat × α)} (h : List.lookup x ((y, v) :: l) = some a) : (x = y ∧ v = a) ∨ (x ≠ y ∧ l.lookup x = some a) := by
  rw [List.lookup_cons] at h
  by_cases e : x = y
  · subst e
    simp at h
    exact .inl ⟨rfl, h⟩
  · have e' : (x == y) = false := by simpa using e
    rw [e'] at h
    exact .inr ⟨e, h⟩
theorem rdH_env {m : Nat → Nat} : ∀ {l : List Slot} {k : Nat} {ids : List Nat} {d : DT l}, rdH s l = some (true, ids, d) → (∀ j, j < ids.length → m (k + j) = ids.getD j 0) →
    ∀ x tv, (envH l k d).lookup x = some tv → ∃ tv0, s.get x = some tv0 ∧ ∀ w G β v, RepT w G β tv0 v → RepT w G (fun i => β (m i)) tv v
  | [], k, ids, d, h, hm, x, tv, hx => by simp [envH] at hx
  | .val t α i A hf :: l, k, ids, d, h, hm, x, tv, hx => by
    simp only [rdH] at h
    obtain ⟨a, ha, h⟩ := Option.bind_eq_some_iff.1 h
    obtain ⟨⟨b', ids', d'⟩, h2, h⟩ := Option.map_eq_some_iff.1 h
    cases h
    rcases lookup_cons' hx with ⟨rfl, rfl⟩ | ⟨_, hx⟩
    · obtain ⟨tv0, h3, h4⟩ := Option.bind_eq_some_iff.1 ha
      exact ⟨tv0, h3, fun w G β v hr => (A.leq h4 _ _ _ _ hr).other (hf a)⟩
    · exact rdH_env h2 hm x tv hx
  | .own t e T :: l, k, ids, d, h, hm, x, tv, hx => by
    simp only [rdH] at h
    obtain ⟨⟨b1, i, xs⟩, ha, h⟩ := Option.bind_eq_some_iff.1 h
    obtain ⟨⟨b', ids', d'⟩, h2, h⟩ := Option.map_eq_some_iff.1 h
    simp only [Prod.mk.injEq, Bool.and_eq_true] at h
    obtain ⟨⟨rfl, rfl⟩, rfl, rfl⟩ := h
    obtain ⟨h3, h4⟩ := rdO_ok ha
    have hk : m k = i := by have := hm 0 (by simp); simpa using this
    rcases lookup_cons' hx with ⟨rfl, rfl⟩ | ⟨_, hx⟩
    · refine ⟨_, h3, fun w G β v hr => ?_⟩
      rw [← hk] at hr
      exact RepT.unren (m := m) (.one (.osl k 0 xs.length)) hr
    · exact rdH_env (k := k + 1) h2 (fun j hj => by have := hm (j + 1) (by simpa using hj); rw [show k + 1 + j = k + (j + 1) by omega, this]; simp) x tv hx
  | .box t α i A hf :: l, k, ids, d, h, hm, x, tv, hx => by
    simp only [rdH] at h
    obtain ⟨⟨i, cells⟩, ha, h⟩ := Option.bind_eq_some_iff.1 h
    obtain ⟨a, _, h⟩ := Option.bind_eq_some_iff.1 h
    obtain ⟨⟨b', ids', d'⟩, h2, h⟩ := Option.map_eq_some_iff.1 h
    cases h
    obtain ⟨h3, h4⟩ := rdX_ok ha
    have hk : m k = i := by have := hm 0 (by simp); simpa using this
    rcases lookup_cons' hx with ⟨rfl, rfl⟩ | ⟨_, hx⟩
    · refine ⟨_, h3, fun w G β v hr => ?_⟩
      rw [← hk] at hr
      exact RepT.unren (m := m) (.one (.box k 0)) hr
    · exact rdH_env (k := k + 1) h2 (fun j hj => by have := hm (j + 1) (by simpa using hj); rw [show k + 1 + j = k + (j + 1) by omega, this]; simp) x tv hx
theorem rdH_row {m : Nat → Nat} : ∀ {l : List Slot} {k : Nat} {ids : List Nat} {d : DT l}, rdH s l = some (true, ids, d) → (∀ j, j < ids.length → m (k + j) = ids.getD j 0) →
    ∀ i row, (rowH l k d).lookup i = some row → (∃ j, j < ids.length ∧ i = k + j) ∧ ∃ row0, s.boxes.lookup (m i) = some row0 ∧ ∀ w G β O, row0.Stands w G β O → row.Stands w G (fun i => β (m i)) O
  | [], k, ids, d, h, hm, x, tv, hx => by simp [rowH] at hx
  | .val t α i A hf :: l, k, ids, d, h, hm, x, tv, hx => by
    simp only [rdH] at h
    obtain ⟨a, ha, h⟩ := Option.bind_eq_some_iff.1 h
    obtain ⟨⟨b', ids', d'⟩, h2, h⟩ := Option.map_eq_some_iff.1 h
    cases h
    exact rdH_row h2 hm x tv hx
  | .own t e T :: l, k, ids, d, h, hm, x, tv, hx => by
    simp only [rdH] at h
    obtain ⟨⟨b1, i, xs⟩, ha, h⟩ := Option.bind_eq_some_iff.1 h
    obtain ⟨⟨b', ids', d'⟩, h2, h⟩ := Option.map_eq_some_iff.1 h
    simp only [Prod.mk.injEq, Bool.and_eq_true] at h
    obtain ⟨⟨rfl, rfl⟩, rfl, rfl⟩ := h
    obtain ⟨h3, row0, h4, h5⟩ := rdO_ok ha
    have hk : m k = i := by have := hm 0 (by simp); simpa using this
    rcases lookup_cons' hx with ⟨rfl, rfl⟩ | ⟨_, hx⟩
    · exact ⟨⟨0, by simp, by omega⟩, row0, by rw [hk]; exact h4, fun w G β O hs => (by have := h5 w G β O hs; exact this)⟩
    · obtain ⟨⟨j, h6, h7⟩, h8⟩ := rdH_row (m := m) (k := k + 1) h2 (fun j hj => by have := hm (j + 1) (by simpa using hj); rw [show k + 1 + j = k + (j + 1) by omega, this]; simp) x tv hx
      exact ⟨⟨j + 1, by simpa using h6, by omega⟩, h8⟩
  | .box t α i A hf :: l, k, ids, d, h, hm, x, tv, hx => by
    simp only [rdH] at h
    obtain ⟨⟨i, cells⟩, ha, h⟩ := Option.bind_eq_some_iff.1 h
    obtain ⟨a, hd, h⟩ := Option.bind_eq_some_iff.1 h
    obtain ⟨⟨b', ids', d'⟩, h2, h⟩ := Option.map_eq_some_iff.1 h
    cases h
    obtain ⟨h3, h4⟩ := rdX_ok ha
    have hk : m k = i := by have := hm 0 (by simp); simpa using this
    rcases lookup_cons' hx with ⟨rfl, rfl⟩ | ⟨_, hx⟩
    · refine ⟨⟨0, by simp, by omega⟩, _, by rw [hk]; exact h4, fun w G β O hs => ?_⟩
      obtain ⟨hz, ty, us, hh, hl⟩ := hs
      exact ⟨hz, ty, us, hh, ((A.leq hd).rep hl).other (hf a)⟩
    · obtain ⟨⟨j, h6, h7⟩, h8⟩ := rdH_row (m := m) (k := k + 1) h2 (fun j hj => by have := hm (j + 1) (by simpa using hj); rw [show k + 1 + j = k + (j + 1) by omega, this]; simp) x tv hx
      exact ⟨⟨j + 1, by simpa using h6, by omega⟩, h8⟩
theorem rd_cov {l : List Slot} {d : DT l} (h : rd z l s = some (true, d)) : s.Cov N z (hd l d) := by
  unfold rd at h
  obtain ⟨⟨b, ids, d'⟩, h1, h⟩ := Option.bind_eq_some_iff.1 h
  dsimp only at h
  split at h
  rotate_left
  · cases h
  rename_i hb
  simp only [Option.some.injEq, Prod.mk.injEq] at h
  obtain ⟨rfl, rfl⟩ := h
  refine (preH_cov l s).trans ?_
  generalize preH l s = s at h1
  have hlen := rdH_len h1
  unfold idsB at hb
  simp only [Bool.and_eq_true, decide_eq_true_eq] at hb
  obtain ⟨⟨b1, b2⟩, b3⟩ := hb
  have b3 := Nat.le_of_ble_eq_true b3
  let m : Nat → Nat := fun i => if i < ids.length then ids.getD i 0 else s.next + (i - ids.length)
  have hm : ∀ j, j < ids.length → m (0 + j) = ids.getD j 0 := fun j hj => by simp only [m, Nat.zero_add, if_pos hj]
  refine SSt.Tells.cov (m := m) ⟨fun x tv hx => rdH_env h1 hm x tv hx, fun i row hr => (rdH_row h1 hm i row hr).2, fun i j ri rj hi hj e => ?_, fun i hi => ?_⟩ (fun i hi => ?_) ?_
  · obtain ⟨⟨i', a1, a2⟩, _⟩ := rdH_row h1 hm i ri hi
    obtain ⟨⟨j', a3, a4⟩, _⟩ := rdH_row h1 hm j rj hj
    have e1 : i = i' := by omega
    have e2 : j = j' := by omega
    subst e1
    subst e2
    simp only [m, if_pos a1, if_pos a3] at e
    rw [List.getD_eq_getElem?_getD, List.getD_eq_getElem?_getD, List.getElem?_eq_getElem a1, List.getElem?_eq_getElem a3] at e
    exact (List.getElem_inj b1).1 e
  · have : cntH l ≤ i := hi
    simp only [m]
    rw [if_neg (by omega)]
    omega
  · simp only [m]
    rw [if_pos (by omega)]
    have := List.all_eq_true.1 b2 i (List.mem_range.2 hi)
    simpa using this
  · show z ≤ cntH l
    omega
end
section
variable {P : Program} {f : FuncId} {α γ δ ε ζ η : Type} [Inhabited ζ]
theorem opt_of {x : Option ζ} (h : x.isSome = true) : x = some (x.getD default) := by
  obtain ⟨a, rfl⟩ := Option.isSome_iff_exists.1 h
  rfl
def Ora.p0 {Z : Dk ζ} {s : Option ζ} (h : ∀ r, s = some r → CallsTo P f [] (Z.enc r)) : Ora P where
  f := f
  run ts := match ts with
    | [] => some (s.isSome, Z.enc (s.getD default))
    | _ => none
  ok ts r e := by
    split at e
    · simp only [Option.some.injEq, Prod.mk.injEq] at e
      obtain ⟨hp, rfl⟩ := e
      exact h _ (opt_of hp)
    · cases e
def Ora.of0 {Z : Dk ζ} {s : ζ} (h : CallsTo P f [] (Z.enc s)) : Ora P := .p0 (Z := Z) (s := some s) fun r e => by cases e; exact h
def Ora.p1 {A : Dk α} {Z : Dk ζ} {s : α → Option ζ} (h : ∀ a r, s a = some r → CallsTo P f [A.enc a] (Z.enc r)) : Ora P := .of1c (A := A) (Z := Z) (s := fun a => (s a).getD default) (fun a => (s a).isSome) fun a hp => h a _ (opt_of hp)
def Ora.p2 {A : Dk α} {B : Dk γ} {Z : Dk ζ} {s : α → γ → Option ζ} (h : ∀ a b r, s a b = some r → CallsTo P f [A.enc a, B.enc b] (Z.enc r)) : Ora P := .of2c (A := A) (B := B) (Z := Z) (s := fun a b => (s a b).getD default) (fun a b => (s a b).isSome) fun a b hp => h a b _ (opt_of hp)
end
inductive Out (D R E : Type) where
  | nxt (d : D)
  | ret (r : R)
  | brk (e : E)
def iter {D R E : Type} (step : D → Option (Out D R E)) : Nat → D → Option (R ⊕ E)
  | 0, _ => none
  | k + 1, d => match step d with
    | some (.nxt d') => iter step k d'
    | some (.ret r) => some (.inl r)
    | some (.brk e) => some (.inr e)
    | none => none
open Classical in
/-- what comes of a loop -/
noncomputable def lim {D R E : Type} (step : D → Option (Out D R E)) (d : D) : Option (R ⊕ E) := if h : ∃ k x, iter step k d = some x then iter step (Classical.choose h) d else none
section
variable {D R E : Type} {step : D → Option (Out D R E)} {d : D} {x : R ⊕ E}
theorem iter_more : ∀ {k : Nat} {d : D} {x : R ⊕ E}, iter step k d = some x → ∀ j, k ≤ j → iter step j d = some x
  | 0, d, x, h, j, hj => by cases h
  | k + 1, d, x, h, 0, hj => by omega
  | k + 1, d, x, h, j + 1, hj => by
    rw [iter] at h ⊢
    split at h
    · rename_i d' e
      exact iter_more h j (by omega)
    · exact h
    · exact h
    · cases h
theorem lim_of {k : Nat} (h : iter step k d = some x) : lim step d = some x := by
  have hx : ∃ k x, iter step k d = some x := ⟨k, x, h⟩
  unfold lim
  rw [dif_pos hx]
  obtain ⟨y, hy⟩ := Classical.choose_spec hx
  have h1 := iter_more h _ (Nat.le_max_left k (Classical.choose hx))
  have h2 := iter_more hy _ (Nat.le_max_right k (Classical.choose hx))
  rw [h1] at h2
  rw [hy, h2]
theorem lim_iter (h : lim step d = some x) : ∃ k, iter step k d = some x := by
  unfold lim at h
  split at h
  · exact ⟨_, h⟩
  · cases h
/-- a round, then the rest -/
theorem lim_nxt {d' : D} (h : step d = some (.nxt d')) : lim step d = lim step d' := by
  cases hx : lim step d' with
  | some x =>
    obtain ⟨k, hk⟩ := lim_iter hx
    exact lim_of (k := k + 1) (by rw [iter, h]; exact hk)
  | none =>
    cases hy : lim step d with
    | none => rfl
    | some y =>
      obtain ⟨k, hk⟩ := lim_iter hy
      cases k with
      | zero => cases hk
      | succ k =>
        rw [iter, h] at hk
        rw [lim_of hk] at hx
        cases hx
theorem lim_ret {r : R} (h : step d = some (.ret r)) : lim step d = some (.inl r) := lim_of (k := 1) (by rw [iter, h])
theorem lim_brk {e : E} (h : step d = some (.brk e)) : lim step d = some (.inr e) := lim_of (k := 1) (by rw [iter, h])
end
def isR {R E : Type} : Option (R ⊕ E) → Bool
  | some (.inl _) => true
  | _ => false
def getR {R E : Type} (r0 : R) : Option (R ⊕ E) → R
  | some (.inl r) => r
  | _ => r0
def getE {R E : Type} (e0 : E) : Option (R ⊕ E) → E
  | some (.inr e) => e
  | _ => e0
/-- what a round of a loop's body leaves, as data -/
def rdOut (z id : Nat) (L LR LE : List Slot) : Exit → SSt → Option (Out (DT L) (DT LR) (DT LE))
  | .normal, s => (rd z L s).bind fun q => cond q.1 (some (.nxt q.2)) none
  | .ret, s => (rd z LR s).bind fun q => cond q.1 (some (.ret q.2)) none
  | .exit j, s => if j = id then (rd z LE s).bind fun q => cond q.1 (some (.brk q.2)) none else none
  | _, _ => none
/-- a loop of a function: its block, what stands ahead of a round, where it hands back, where it ends, a round -/
structure Lp where
  id : Nat
  L : List Slot
  LR : List Slot
  LE : List Slot
  step : DT L → Option (Out (DT L) (DT LR) (DT LE))
/-- what comes of a loop: does it end, does it hand back, what it hands back, what it leaves -/
noncomputable def Lp.okB (p : Lp) (d : DT p.L) : Bool := (lim p.step d).isSome
noncomputable def Lp.rB (p : Lp) (d : DT p.L) : Bool := isR (lim p.step d)
noncomputable def Lp.rV (p : Lp) (d : DT p.L) : DT p.LR := getR (dfD p.LR) (lim p.step d)
noncomputable def Lp.eV (p : Lp) (d : DT p.L) : DT p.LE := getE (dfD p.LE) (lim p.step d)
noncomputable def Lp.run (p : Lp) (z : Nat) (s : SSt) : Option (Bool × Bool × (Exit × SSt) × (Exit × SSt)) := match rd z p.L s with
  | some (b, d) => some (b && p.okB d, p.rB d, (.ret, hd p.LR (p.rV d)), (.normal, hd p.LE (p.eV d)))
  | none => none
/-- what is known of loops -/
noncomputable def lpB (z : Nat) (ps : List Lp) : BlK := fun id s => match ps.find? (fun p => p.id == id) with
  | some p => p.run z s
  | none => none
section
variable {P : Program} {R : OrK} {N z n : Nat} {C : Ctx} {c : Code}
def OutOk (N z id : Nat) (L LR LE : List Slot) (e : Exit) (s : SSt) : Out (DT L) (DT LR) (DT LE) → Prop
  | .nxt d => e = .normal ∧ s.Cov N z (hd L d)
  | .ret d => e = .ret ∧ s.Cov N z (hd LR d)
  | .brk d => e = .exit id ∧ s.Cov N z (hd LE d)
theorem rdOut_ok {id : Nat} {L LR LE : List Slot} {e : Exit} {s : SSt} {o : Out (DT L) (DT LR) (DT LE)} (h : rdOut z id L LR LE e s = some o) : OutOk N z id L LR LE e s o := by
  cases e with
  | normal =>
    simp only [rdOut] at h
    obtain ⟨⟨b, d⟩, h1, h⟩ := Option.bind_eq_some_iff.1 h
    obtain ⟨rfl, h⟩ := cond_none h
    cases h
    exact ⟨rfl, rd_cov h1⟩
  | ret =>
    simp only [rdOut] at h
    obtain ⟨⟨b, d⟩, h1, h⟩ := Option.bind_eq_some_iff.1 h
    obtain ⟨rfl, h⟩ := cond_none h
    cases h
    exact ⟨rfl, rd_cov h1⟩
  | exit j =>
    simp only [rdOut] at h
    split at h
    · rename_i hj
      obtain ⟨⟨b, d⟩, h1, h⟩ := Option.bind_eq_some_iff.1 h
      obtain ⟨rfl, h⟩ := cond_none h
      cases h
      exact ⟨by rw [hj], rd_cov h1⟩
    · cases h
  | _ => simp [rdOut] at h
/-- a round, as data, and what it says of the code -/
def Lp.Ok (P : Program) (N z : Nat) (p : Lp) (c : Code) : Prop := ∀ d o, p.step d = some o → ∀ C : Ctx, C.n0 = z → match o with
  | .nxt d' => SW P N C c (Ex .normal (hd p.L d')) (hd p.L d)
  | .ret r => SW P N C c (Ex .ret (hd p.LR r)) (hd p.L d)
  | .brk e => SW P N C c (Ex (.exit p.id) (hd p.LE e)) (hd p.L d)
theorem Lp.ok_of {p : Lp} {B : BlK} {F : CallK (Out (DT p.L) (DT p.LR) (DT p.LE))} (hR : ROk P R) (hF : FKOk P F) (hm : P.follows .mixedOrders = true) (hL : LOk P N z B c)
    (h : ∀ d, evCK P R B F N n c (hd p.L d) (rdOut z p.id p.L p.LR p.LE) = p.step d) : p.Ok P N z c := fun d o ho C hC => by
  have := h d
  rw [ho] at this
  obtain ⟨e, s, h1, h2⟩ := evCK_ok hR hF hm c hL this
  have h3 := rdOut_ok (N := N) h2
  cases o with
  | nxt d' =>
    obtain ⟨rfl, h3⟩ := h3
    exact (h1 C hC).post hC h3
  | ret d' =>
    obtain ⟨rfl, h3⟩ := h3
    exact (h1 C hC).post hC h3
  | brk d' =>
    obtain ⟨rfl, h3⟩ := h3
    exact (h1 C hC).post hC h3
theorem Lp.loop {p : Lp} (hp : p.Ok P N z c) : ∀ (k : Nat) (d : DT p.L) (x : DT p.LR ⊕ DT p.LE), iter p.step k d = some x → ∀ C : Ctx, C.n0 = z → SW P N C (.loop c) (match x with
    | .inl r => Ex .ret (hd p.LR r)
    | .inr e => Ex (.exit p.id) (hd p.LE e)) (hd p.L d) := fun k d x hx C hC => by
  refine SW.loop1 (fun k s => ∃ d, s = hd p.L d ∧ iter p.step k d = some x) k ⟨d, rfl, hx⟩ ?_
  rintro k s ⟨d, rfl, h⟩
  cases k with
  | zero => cases h
  | succ k =>
    rw [iter] at h
    split at h
    · rename_i d' e
      refine (hp d _ e C hC).mono ?_
      rintro e2 s2 ⟨rfl, rfl⟩
      exact ⟨k, Nat.lt_succ_self _, d', rfl, h⟩
    · rename_i r e
      cases h
      refine (hp d _ e C hC).mono ?_
      rintro e2 s2 ⟨rfl, rfl⟩
      exact ⟨rfl, rfl⟩
    · rename_i r e
      cases h
      refine (hp d _ e C hC).mono ?_
      rintro e2 s2 ⟨rfl, rfl⟩
      exact ⟨rfl, rfl⟩
    · cases h
theorem Lp.blk {p : Lp} (hp : p.Ok P N z c) {st : SSt} {b : Bool} {x y : Exit × SSt} (e : p.run z st = some (true, b, x, y)) (hC : C.n0 = z) : SW P N C (.block p.id (.loop c)) (Ex (cond b x y).1 (cond b x y).2) st := by
  unfold Lp.run at e
  split at e
  rotate_left
  · cases e
  rename_i b' d hd'
  simp only [Option.some.injEq, Prod.mk.injEq, Bool.and_eq_true] at e
  obtain ⟨⟨rfl, e1⟩, rfl, rfl, rfl⟩ := e
  unfold Lp.okB at e1
  obtain ⟨o, ho⟩ := Option.isSome_iff_exists.1 e1
  obtain ⟨k, hk⟩ := lim_iter ho
  refine SW.pre hC (rd_cov hd') ?_
  unfold Lp.rB Lp.rV Lp.eV
  rw [ho]
  have := Lp.loop hp k d o hk C hC
  refine SW.block ?_
  cases o with
  | inl r =>
    refine this.mono ?_
    rintro e2 s2 ⟨rfl, rfl⟩
    exact ⟨rfl, rfl⟩
  | inr r =>
    refine this.mono ?_
    rintro e2 s2 ⟨rfl, rfl⟩
    simp only [SIn, if_true]
    exact ⟨rfl, rfl⟩
/-- the loops of a function, each behind those in it -/
inductive LpsOk (P : Program) (N z : Nat) (fn : Func) : List Lp → Prop
  | nil : LpsOk P N z fn []
  | cons {p : Lp} {ps : List Lp} (hp : p.Ok P N z (loopOf fn p.id)) (h : LpsOk P N z fn ps) : LpsOk P N z fn (p :: ps)
theorem LpsOk.get {fn : Func} {ps : List Lp} (h : LpsOk P N z fn ps) : ∀ p ∈ ps, p.Ok P N z (loopOf fn p.id) := by
  induction h with
  | nil => intro p hp; simp at hp
  | cons hp h ih =>
    intro q hq
    rcases List.mem_cons.1 hq with rfl | hq
    · exact hp
    · exact ih q hq
/-- the loops of c that are known -/
def lpsC (fn : Func) (ids : List Nat) (c : Code) : Prop := (blks c).filter (fun q => ids.contains q.1) = ((blks c).filter (fun q => ids.contains q.1)).map fun q => (q.1, .loop (loopOf fn q.1))
theorem LpsOk.lok {fn : Func} {ps : List Lp} (h : LpsOk P N z fn ps) {c : Code} (hc : lpsC fn (ps.map (·.id)) c) : LOk P N z (lpB z ps) c := by
  refine LOk.of_list (ps.map (·.id)) _ (fun id st hid => ?_) rfl fun q hq st b x y e C hC => ?_
  · unfold lpB
    split
    · rename_i p hp
      have h1 := List.find?_some hp
      have h2 := List.mem_of_find?_eq_some hp
      exact absurd (List.mem_map.2 ⟨p, h2, by simpa using h1⟩) hid
    · rfl
  · unfold lpsC at hc
    rw [hc] at hq
    obtain ⟨q', _, rfl⟩ := List.mem_map.1 hq
    unfold lpB at e
    split at e
    · rename_i p hp
      have h1 : p.id = q'.1 := by simpa using List.find?_some hp
      have h2 := List.mem_of_find?_eq_some hp
      rw [← h1]
      exact Lp.blk (h.get p h2) e hC
    · cases e
/-- a function's contract, its loops given -/
theorem to_of_lps {ρ : Type} {Z : Dk ρ} {L : List (Ora P)} {ps : List Lp} {n k f : Nat} {ts : List TV} {x : ρ} {fn : Func} {c : Code} (hm : P.follows .mixedOrders = true) (hf : P.funcs[f]? = some fn) (hb : fn.body = some c) (h : LpsOk P fn.ntmps 0 fn ps) (hc : lpsC fn (ps.map (·.id)) c) (ht : TV.frees ts = true)
    (hev : evGK P (oraR L) (lpB 0 ps) n k f ts [] 0 (fun r σ _ => finK Z.dec r σ) = some x) : CallsTo P f ts (Z.enc x) := to_of_loops hm hf hb (h.lok hc) ht hev
end
end Go.Proofs.YtbljhngekhgbbaaGreat
