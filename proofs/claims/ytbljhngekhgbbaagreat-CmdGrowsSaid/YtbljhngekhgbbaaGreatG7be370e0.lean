/- Texts of the proofs of CmdEnds, CmdFirst, CmdGrows, CmdPlays, merged (AmDf). -/
import Derived.Defers
import Derived.Recover
import Derived.Test.YtbljhngekhgbbaaGreatGb3b707fa
import Derived.Test.YtbljhngekhgbbaaGreatGb43ee308
import Derived.Test.YtbljhngekhgbbaaGreatG9c20b58a
import Derived.Test.YtbljhngekhgbbaaGreatG6e0496cb
import Derived.Test.YtbljhngekhgbbaaGreatG20caf6cc
import Derived.Test.YtbljhngekhgbbaaGreatGf0b3007f
set_option linter.unusedSimpArgs false
set_option linter.unusedVariables false
namespace Go.Proofs.YtbljhngekhgbbaaGreat
open Go.RowKit
set_option linter.unusedVariables false
set_option linter.unusedSectionVars false
set_option linter.unusedSimpArgs false
/-- the deferred closure does nothing where nothing was thrown -/
def IdleD (P : Program) (g : FuncId) (k : Nat) : Prop := ∀ (args : Array Value) (w : World), args.size = k → CallsD P g args .returning w fun e u' w' => e = .returned (.tuple #[]) ∧ u' = .returning ∧ w' = w
/-- code that may lay one call of g by -/
def SD (P : Program) (g : FuncId) (k N : Nat) (C : Ctx) (c : Code) (Q : Exit → SSt → Prop) (st : SSt) : Prop :=
  ∀ (β : Ids) (a : Act) (w : World), InvC N C β st a w → c.wp P (fun e a' w' => ∃ st' β', (InvC N C β' st' a' w' ∨ ∃ cap dargs : Array Value, (dargs ++ cap).size = k ∧ InvC N { C with ds := [{ target := .fn (.func g) cap, args := dargs }] } β' st' a' w') ∧ Q e st') a w
section
variable {P : Program} {N n n' k : Nat} {g : FuncId} {C : Ctx} {st : SSt} {Q Q' : Exit → SSt → Prop} {w w' : World} {a : Act} {β : Ids} {ops : Array Oper}
theorem SD.seq {x y : Code} (h : SW P N C x (SThen (SD P g k N C y Q) Q) st) : SD P g k N C (.seq x y) Q st := fun β a w hi => by
  refine wp_seq (wp_mono (h β a w hi) ?_)
  rintro e a' w' ⟨s, b, h1, h2⟩
  cases e with
  | normal => exact h2 b a' w' h1
  | _ => exact ⟨s, b, .inl h1, h2⟩
theorem lex_ok2 {R : Exit → Act → World → Prop} {more : List Nat} : ∀ {rest : List Oper} {i : Nat} {st sn : SSt} {β : Ids} {a : Act} {w : World}, (∀ j o, rest[j]? = some o → ops[i + j]? = some o) → LexR P N ops rest st sn →
    InvC N C β st a w → (∀ a' w' β', InvC N C β' sn a' w' → wpOps P ops R more a' w') → wpOps P ops R (List.range' i rest.length ++ more) a w := by
  intro rest i st sn β a w hr e
  induction e generalizing i β a w with
  | nil => intro h hQ; exact hQ _ _ β h
  | @cons o rest c st s1 sn ck h hk _ ih =>
    intro hi hQ
    have ho : ops[i]? = some o := by simpa using hr 0 o rfl
    rw [List.length_cons, List.range'_succ, List.cons_append, wpOps_cons]
    unfold wpOp
    rw [ho]
    have hs := step_ok (R := R) h hk hi (K := wpOps P ops R (List.range' (i + 1) rest.length ++ more)) (fun a' w' β' hi' _ _ => ih (fun j q hj => by have := hr (j + 1) q (by simpa using hj); rw [← this]; congr 1; omega) hi' hQ)
    dsimp only
    by_cases hw : Region.wanted o (yielded ops a.tmps) = true
    · rw [if_pos hw] at hs ⊢
      exact .inl hs
    · rw [if_neg hw] at hs ⊢
      exact hs
/-- the defer itself -/
theorem SD.defer {id : Nat} {l : List Oper} {y : Code} {f : Operand} {ty : TypeId} {pos : String} {af : Array Edge} {sn : SSt} {cap : List PV} (hC : C.ds = []) (hl : ops.toList = l ++ [⟨none, .defer { callee := .value f, args := #[], argTypes := #[] }, ty, pos, af, none⟩])
    (e : LexR P N ops l st sn) (hf : sn.eval f = some (.one (.clo (.func g) [] cap))) (hk : cap.length = k) (h : ∀ C' : Ctx, C'.n0 = C.n0 → SW P N C' y Q sn) : SD P g k N C (.seq (.region id ops false) y) Q st := fun β a w hi => by
  refine wp_seq (wp_region ?_)
  have hsz : ops.size = l.length + 1 := by rw [← Array.length_toList, hl]; simp
  have hr : List.range ops.size = List.range' 0 l.length ++ [l.length] := by rw [hsz, List.range_succ, List.range_eq_range']
  rw [hr]
  refine lex_ok2 (fun j o hj => ?_) e hi fun a' w' β' hi' => ?_
  · rw [Nat.zero_add, ← Array.getElem?_toList, hl, List.getElem?_append_left (List.getElem?_eq_some_iff.1 hj).1]
    exact hj
  · rw [wpOps_cons]
    have ho : ops[l.length]? = some ⟨none, .defer { callee := .value f, args := #[], argTypes := #[] }, ty, pos, af, none⟩ := by
      rw [← Array.getElem?_toList, hl, List.getElem?_append_right (Nat.le_refl _)]
      simp
    unfold wpOp
    rw [ho]
    dsimp only
    rw [if_pos (by unfold Region.wanted; rfl)]
    refine .inl ?_
    have hrep := hi'.1.eval hf
    generalize hv : a'.eval f = v at hrep
    cases hrep with
    | one hrep =>
      cases hrep with
      | clo q1 q2 q3 q4 =>
        rename_i fs cs
        have hfs : fs = #[] := Array.eq_empty_of_size_eq_zero (by simpa using q1)
        subst hfs
        have hrun : (execOp a'.eval ⟨none, .defer { callee := .value f, args := #[], argTypes := #[] }, ty, pos, af, none⟩).run P w' = .ok (.defer { target := .fn (.func g) cs, args := #[] }) w' := by
          unfold execOp resolve
          simp only [hv, Deferred.ofValue]
          have e0 : (#[] : Array Value) ++ (#[] : Array Operand).map a'.eval = #[] := by simp
          rw [e0]
          rfl
        unfold Oper.wp
        rw [hrun, Oper.upon_defer]
        show Code.wp P y _ _ w'
        have hI : InvC N { C with ds := [{ target := .fn (.func g) cs, args := #[] }] } β' sn ({ a' with defers := { target := .fn (.func g) cs, args := #[] } :: a'.defers }.put none undef) w' := by
          obtain ⟨⟨i1, i2, i3, i5, i6, i7⟩, i8, i9⟩ := hi'
          exact ⟨⟨by show _ :: a'.defers = _; rw [i1, hC], i2, i3, i5, i6, i7⟩, i8, i9⟩
        have := h { C with ds := [{ target := .fn (.func g) cs, args := #[] }] } rfl β' _ w' hI
        refine wp_mono this ?_
        rintro e a2 w2 ⟨s2, b2, g1, g2⟩
        exact ⟨s2, b2, .inr ⟨cs, #[], by simp [q2, hk], g1⟩, g2⟩
theorem callsG_of_d {f g : FuncId} {k : Nat} {fn : Func} {c : Code} {σ σ' : Store} {ts : List TV} {r : TV} (hf : P.funcs[f]? = some fn) (hb : fn.body = some c) (hn : ts.length ≤ fn.ntmps)
    (hid : IdleD P g k) (hg : enterB P g = true) (h : ∀ C : Ctx, C.n0 = n → C.ds = [] → SD P g k fn.ntmps C c (fun e st => (e = .normal ∨ e = .ret) ∧ (resS P st fn.results.toList).map retS = some r ∧ Sub σ' st.boxes ∧ st.next ≤ n') (startS ts σ n)) : CallsG P f σ n ts r σ' n' := by
  intro w H β args hM hargs
  refine calls_of_wp_defers hf hb ?_
  let C : Ctx := ⟨w, owned β σ, H, n, β, []⟩
  have hlen : args.toArray.size = ts.length := by rw [List.size_toArray]; exact hargs.1
  have hI : InvC fn.ntmps C β (startS ts σ n) { tmps := args.toArray ++ Array.replicate (fn.ntmps - args.toArray.size) undef, defers := [] } w := by
    refine ⟨⟨rfl, by simp; have := hargs.1; omega, ExtB.refl _ w, hM, fun b hb => .inr hb, fun t tv ht => ?_⟩, fun _ _ => rfl, Nat.le_refl _⟩
    have hk : ∀ (l : List TV) (k : Nat), (l.zipIdx k |>.map fun x => (x.2, x.1)).lookup t = some tv → k ≤ t ∧ l[t - k]? = some tv := by
      intro l
      induction l with
      | nil => intro k hk; simp at hk
      | cons x l ih =>
        intro k hk
        rw [List.zipIdx_cons, List.map_cons, List.lookup_cons] at hk
        by_cases e : t = k
        · subst e
          simp at hk
          subst hk
          exact ⟨Nat.le_refl _, by simp⟩
        · have e' : (t == k) = false := by simpa using e
          rw [e'] at hk
          obtain ⟨h1, h2⟩ := ih (k + 1) hk
          refine ⟨by omega, ?_⟩
          have : t - k = (t - (k + 1)) + 1 := by omega
          rw [this, List.getElem?_cons_succ]
          exact h2
    have ht' := (hk ts 0 ht).2
    rw [Nat.sub_zero] at ht'
    have hlt : t < args.length := by rw [hargs.1]; exact (List.getElem?_eq_some_iff.1 ht').1
    refine ⟨args[t], ?_, hargs.2 t tv _ ht' (List.getElem?_eq_getElem hlt)⟩
    rw [Array.getElem?_append_left (by simpa using hlt)]
    simp [List.getElem?_eq_getElem hlt]
  have fin : ∀ (D : List Deferred) (a' : Act) (w' : World) (st : SSt) (β' : Ids), InvC fn.ntmps { C with ds := D } β' st a' w' → (resS P st fn.results.toList).map retS = some r → Sub σ' st.boxes → st.next ≤ n' →
      ∃ v, (results fn a'.tmps).run P w' = .ok v w' ∧ (∃ v' β'', Ending.returned v = .returned v' ∧ MStep H w β σ n w' β'' σ' n' ∧ RepT w' (gOf H β'' σ') β'' r v') := by
    rintro D a' w' st β' ⟨hi, hbase, hn0⟩ hres hsub hnx
    obtain ⟨us, hus, rfl⟩ := Option.map_eq_some_iff.1 hres
    obtain ⟨vs, hrun, hrep⟩ := run_results hi hus
    have hdrop := MStep.drop hi.mem (σ' := σ') (n' := n') hsub hnx
    have hown : ∀ b, owned β' σ' b → owned β' st.boxes b := fun b ⟨id, row, O, h1, h2⟩ => ⟨id, row, O, hsub id row h1, h2⟩
    have hstep : MStep H w β σ n w' β' σ' n' := by
      refine ⟨fun i o hi' => ?_, fun i hlt => hbase i hlt, hi.ext, hdrop.mem, fun b hb => hi.own b (hown b hb), Nat.le_trans hn0 hnx⟩
      have hlt : i < n := by
        refine Nat.lt_of_not_le fun hle => ?_
        rw [hM.dom i hle] at hi'
        cases hi'
      rw [hbase i hlt]
      exact hi'
    have hfin : ∃ v, (results fn a'.tmps).run P w' = .ok v w' ∧ RepT w' (st.G H β') β' (retS us) v := by
      have e0 : results fn a'.tmps = (do let vs ← fn.results.mapM (resQ a'.tmps); pure (if h : vs.size = 1 then vs[0] else .tuple vs)) := by
        unfold results
        congr 1
      rw [e0, Array.mapM_eq_mapM_toList, Sem.run_bind, Sem.run_map, hrun]
      simp only [Result.andThen_ok]
      by_cases h1 : vs.length = 1
      · obtain ⟨v, rfl⟩ := List.length_eq_one_iff.1 h1
        have : us.length = 1 := by rw [← hrep.1]; rfl
        obtain ⟨u, rfl⟩ := List.length_eq_one_iff.1 this
        refine ⟨v, ?_, hrep.2 0 u v rfl rfl⟩
        simp [pure]
      · have hu1 : us.length ≠ 1 := by rw [← hrep.1]; exact h1
        refine ⟨.tuple vs.toArray, ?_, ?_⟩
        · rw [dif_neg (by simpa using h1)]; rfl
        · have : retS us = .tup us := by
            match us, hu1 with
            | [], _ => rfl
            | [_], h => exact absurd rfl h
            | _ :: _ :: _, _ => rfl
          rw [this]
          exact .tup (by simpa using hrep.1) fun i t v h2 h3 => hrep.2 i t v h2 (by simpa using h3)
    obtain ⟨v, hv, hvr⟩ := hfin
    exact ⟨v, hv, v, β', rfl, hstep, hvr.mono hdrop.keep⟩
  refine wp_mono (h C rfl rfl _ _ _ hI) ?_
  rintro e a' w' ⟨st, β', hcase, he, hres, hsub, hnx⟩
  have hpost : Leaves P fn a'.tmps (fun e w' => ∃ v β', e = .returned v ∧ MStep H w β σ n w' β' σ' n' ∧ RepT w' (gOf H β' σ') β' r v) a'.defers .returning w' := by
    rcases hcase with hi | ⟨cap, dargs, hsz, hi⟩
    · have hd : a'.defers = [] := hi.1.defers
      rw [hd]
      obtain ⟨v, hv, hR⟩ := fin [] a' w' st β' hi hres hsub hnx
      exact ⟨v, hv, hR⟩
    · have hd : a'.defers = [{ target := .fn (.func g) cap, args := dargs }] := hi.1.defers
      rw [hd]
      refine leaves_cons (f := g) (args := dargs ++ cap) (by simp) (run_enter hg _ _) ?_
      refine (hid (dargs ++ cap) w' hsz).mono ?_
      rintro e u' w2 ⟨rfl, rfl, rfl⟩
      obtain ⟨v, hv, hR⟩ := fin _ a' w2 st β' hi hres hsub hnx
      exact ⟨v, hv, hR⟩
  rcases he with rfl | rfl
  · exact hpost
  · exact hpost
end
end Go.Proofs.YtbljhngekhgbbaaGreat
