/- Texts of the proofs of TopoOnce, TopoTells, merged (SpH). -/
import Derived.Lib.Hide
import Derived.Test.YtaedgbkeiankcaaWWords
import Derived.Test.YtaedgbkeiankcaaWLast
import Derived.Test.YtaedgbkeiankcaaWTab
import Derived.Test.YtaedgbkeiankcaaWQPut
import Derived.Test.YtaedgbkeiankcaaWApart
import Derived.Test.YtaedgbkeiankcaaWArr
import Derived.Test.YtaedgbkeiankcaaWZeros
import Derived.Test.YtaedgbkeiankcaaWFoot
import Derived.Test.YtaedgbkeiankcaaWKept
import Derived.Test.YtaedgbkeiankcaaWShare
import Derived.Test.YtaedgbkeiankcaaWN
import Derived.Test.YtaedgbkeiankcaaWEqStruct
import Derived.Test.YtaedgbkeiankcaaWRepsOne
import Derived.Test.YtaedgbkeiankcaaWGuard
import Derived.Test.YtaedgbkeiankcaaWNEv
import Derived.Test.YtaedgbkeiankcaaWMore
import Derived.Test.YtaedgbkeiankcaaG5fc94eef
import Derived.Test.YtaedgbkeiankcaaG4bcd870f
namespace Go.Proofs.Ytaedgbkeiankcaa.P
open Go.RowKit Go.Proofs.YtaedgbkeiankcaaW.PrintWords Go.Proofs.YtaedgbkeiankcaaW.PrintLast Go.Proofs.YtaedgbkeiankcaaW.PrintMore
attribute [local go_sem] str_leq str_geq max2_str
set_option linter.unusedVariables false
/-- the place of the first one of which p is so, or -1 -/
def idxOf {α : Type} (p : α → Bool) : List α → Int
  | [] => -1
  | x :: l => if p x = true then 0 else if idxOf p l = -1 then -1 else idxOf p l + 1
theorem idxOf_miss {α : Type} (p : α → Bool) (l : List α) (h : ∀ x ∈ l, p x = false) : idxOf p l = -1 := by
  induction l with
  | nil => rfl
  | cons a l ih => simp [idxOf, h a (by simp), ih (fun x hx => h x (by simp [hx]))]
theorem idxOf_hit {α : Type} (p : α → Bool) (l : List α) (k : Nat) (hk : k < l.length) (h : ∀ j (hj : j < k), p (l[j]'(by omega)) = false) (hp : p l[k] = true) : idxOf p l = k := by
  induction l generalizing k with
  | nil => simp at hk
  | cons a l ih =>
    cases k with
    | zero => simp at hp; simp [idxOf, hp]
    | succ k =>
      have h0 := h 0 (by omega)
      have e := ih k (by simpa using hk) (fun j hj => by simpa using h (j + 1) (by omega)) (by simpa using hp)
      simp at h0
      simp [idxOf, h0, e]
theorem idxOf_any {α : Type} (p : α → Bool) (l : List α) : decide (0 ≤ idxOf p l) = l.any p := by
  induction l with
  | nil => simp [idxOf]
  | cons a l ih =>
    cases h : p a with
    | true => simp [idxOf, h]
    | false =>
      simp only [idxOf, h, List.any_cons, Bool.false_or, ← ih]
      by_cases e : idxOf p l = -1
      · simp [e]
      · have : -1 ≤ idxOf p l := by
          clear ih e h
          induction l with
          | nil => simp [idxOf]
          | cons b l ih => simp only [idxOf]; split <;> (try split) <;> omega
        simp [e]; omega
section
variable {prog : Program}
/-- an element's function -/
def FnOn {α : Type} (P : Program) (g : Nat) (lb : Array Value) (val : α → Value) (p : α → Bool) (l : List α) (w : World) : Prop :=
  ∀ (W : World) (x : α), Below w.heap.size w W → x ∈ l → Calls P g (#[val x] ++ lb) W fun e w' => e = .returned (.bool (p x)) ∧ Below w.heap.size w w'
end
theorem enters_fn {P : Program} {f : FuncId} {fn : Func} {c : Code} (hf : P.funcs[f]? = some fn) (hname : (fn.name == "runtime.NumGoroutine") = false) (hb : fn.body = some c) : ∀ args w, (callFunc f args).run P w = .ok (.enter f args) w := by
  intro args w
  have h1 : fn.name ≠ "runtime.NumGoroutine" := by simpa using hname
  simp [callFunc, hf, h1, hb, mark]
abbrev vSp (x : S35) : Value := .agg #[.string x.f0, .string x.f1]
set_option maxHeartbeats 2000000 in
theorem indexFunc_sp (g : Nat) (lb : Array Value) (p : S35 → Bool) (eg : ∀ args w, (callFunc g args).run Try.prog w = .ok (.enter g args) w) (A : Option Addr) (c : Nat) (l : List S35) (w : World)
    (hr : Kd.C k35 w A l.length l) (hc : l.length ≤ c) (hp : FnOn Try.prog g lb vSp p l w) :
    Calls Try.prog 60 #[.slice A l.length c, .func (.func g) #[] lb] w fun e w' => e = .returned (.int .i64 (idxOf p l)) ∧ Below w.heap.size w w' := by
  have hm := Kd.C_max hr
  have HR := Aside0.mk hr
  clear hr
  go_enter Try.func60, Try.ntmps60
  go_wp2
  go_loopg [5, 8] l.length (fun gg _ s8 wr => ∃ kk : Nat, kk ≤ l.length ∧ l.length - kk ≤ gg ∧ s8 = .int .i64 kk ∧ Aside0 (Below w.heap.size w wr) ∧ Aside0 (∀ j (h : j < l.length), j < kk → p l[j] = false))
  case atStart => exact ⟨0, Nat.zero_le _, by omega, rfl, ⟨Below.refl _ w⟩, ⟨fun j h hj => absurd hj (Nat.not_lt_zero _)⟩⟩
  case round =>
    obtain ⟨kk, hkk, hg, rfl, BW, HA⟩ := hrel
    by_cases hlt : kk < l.length
    · have hltz : (kk : Int) < (l.length : Int) := by omega
      obtain ⟨ad, e, h0, h1⟩ := at_T35 HR.out kk (by omega) hltz
      cases e
      replace h0 := (BW.out.cell (World.block_lt_of_cell? w _ h0)).trans h0
      replace h1 := (BW.out.cell (World.block_lt_of_cell? w _ h1)).trans h1
      have hx : rd_T35 l kk = l[kk] := by simp [rd_T35, List.getD_eq_getElem?_getD, hlt]
      rw [hx] at h0 h1
      simp only [Int.toNat_natCast] at h0 h1
      have hcall := hp wr l[kk] BW.out (List.getElem_mem hlt)
      clear hp hx
      have B := Aside0.mk (rfl : l[kk] = l[kk])
      generalize hy : l[kk] = y at h0 h1 hcall
      have HY := Lib.hid hy
      clear hy B
      cases hq : p y with
      | true =>
        rw [hq] at hcall
        go_wp2_with fail
        refine hcall.mono ?_
        rintro e w' ⟨rfl, hb'⟩
        go_wp2
        go_ret
        refine ⟨?_, hb'⟩
        rw [idxOf_hit p l kk hlt (fun j hj => HA.out j (by omega) hj) (by rw [HY.out]; exact hq)]
        rfl
      | false =>
        rw [hq] at hcall
        go_wp2_with fail
        refine hcall.mono ?_
        rintro e w' ⟨rfl, hb'⟩
        go_wp2
        go_roundg (l.length - (kk + 1))
        case measure => omega
        case rel =>
          refine ⟨kk + 1, by omega, by omega, by go_num, ⟨hb'⟩, ⟨fun j h hj => ?_⟩⟩
          by_cases e : j = kk
          · subst e
            rw [HY.out]; exact hq
          · exact HA.out j h (by omega)
    · have hltz : ¬ (kk : Int) < (l.length : Int) := by omega
      have : kk = l.length := by omega
      subst this
      go_wp2
      go_ret
      refine ⟨?_, BW.out⟩
      rw [idxOf_miss p l (fun x hx => by obtain ⟨j, hj, rfl⟩ := List.getElem_of_mem hx; exact HA.out j hj hj)]
      rfl
theorem containsFunc_sp (g : Nat) (lb : Array Value) (p : S35 → Bool) (eg : ∀ args w, (callFunc g args).run Try.prog w = .ok (.enter g args) w) (A : Option Addr) (c : Nat) (l : List S35) (w : World)
    (hr : Kd.C k35 w A l.length l) (hc : l.length ≤ c) (hp : FnOn Try.prog g lb vSp p l w) :
    Calls Try.prog 56 #[.slice A l.length c, .func (.func g) #[] lb] w fun e w' => e = .returned (.bool (l.any p)) ∧ Below w.heap.size w w' := by
  have hcon := Lib.hid (indexFunc_sp g lb p eg A c l w hr hc hp)
  rw [← idxOf_any]
  clear hr hc hp
  generalize idxOf p l = r at hcon ⊢
  go_enter Try.func56, Try.ntmps56
  go_wp2_with (go_at_call 60; refine hcon.out.mono ?_; rintro e w' ⟨rfl, hb⟩)
  go_ret
  exact ⟨rfl, hb⟩
/-- a text in a span, as span.Has asks -/
def inSp (k : ByteArray) (s : S35) : Bool := !(Op.bytesLess k.toList s.f0.toList) && (s.f1.toList.isEmpty || Op.bytesLess k.toList s.f1.toList)
theorem before_val (a b : ByteArray) : span_end_before.f a b = some (!a.toList.isEmpty && !(Op.bytesLess b.toList a.toList)) := by
  unfold span_end_before.f
  by_cases h : a.toList = []
  · rw [if_pos h, h]; rfl
  · rw [if_neg h]
    cases e : a.toList with
    | nil => exact absurd e h
    | cons x y => simp
theorem has_fn (k : ByteArray) (B : Nat) (l : List S35) (w : World) (hB : B < w.heap.size) (hcell : w.cell? ⟨B, 0, none⟩ = some (.string k)) :
    FnOn Try.prog 57 #[.pointer (some ⟨B, 0, none⟩)] vSp (inSp k) l w := fun W x hb _ => by
  have hc : W.cell? ⟨B, 0, none⟩ = some (.string k) := (hb.cell (p := ⟨B, 0, none⟩) hB).trans hcell
  have hBW : B < W.heap.size := Nat.lt_of_lt_of_le hB hb.size
  have hne : B ≠ W.heap.size := by omega
  obtain ⟨a, b⟩ := x
  show Calls Try.prog 57 #[.agg #[.string a, .string b], .pointer (some ⟨B, 0, none⟩)] W _
  have hbf := before_val b k
  have hbb := Lib.hid (fun W' => span_end_before.calls b k _ W' hbf)
  clear hbf hB hcell
  have HB := Aside0.mk hb
  clear hb
  unfold inSp
  dsimp only
  by_cases h1 : Op.bytesLess k.toList a.toList = true
  · go_enter Try.func57, Try.ntmps57
    go_wp2
    go_ret
    exact ⟨by simp [h1], HB.out.alloc HB.out.size _⟩
  · have h1' : Op.bytesLess k.toList a.toList = false := by simpa using h1
    clear h1
    generalize hv : (!b.toList.isEmpty && !(Op.bytesLess k.toList b.toList)) = v at hbb
    have HV := Lib.hid hv
    clear hv
    go_enter Try.func57, Try.ntmps57
    go_wp2_with (go_at_call 58; refine (hbb.out _).mono ?_; rintro e w' ⟨rfl, hb2⟩)
    go_ret
    refine ⟨?_, (HB.out.alloc HB.out.size _).trans (hb2.mono (by have := HB.out.size; simp; omega))⟩
    rw [h1', ← HV.out]
    cases b.toList.isEmpty <;> cases Op.bytesLess k.toList b.toList <;> rfl
def span_Has.f (l0 : List S35) (a1 : ByteArray) : Option Bool := some (l0.any (inSp a1))
theorem span_Has.calls (A0 : Option Addr) (c0 : Nat) (l0 : List S35) (a1 : ByteArray) (r : Bool) (w : World) (hr0 : Kd.C k35 w A0 l0.length l0) (hc0 : l0.length ≤ c0) (h : span_Has.f l0 a1 = some r) :
    Calls Try.prog 42 #[.slice A0 l0.length c0, .string a1] w fun e w' => e = .returned (.bool r) ∧ Below w.heap.size w w' := by
  obtain rfl := Option.some.inj h
  clear h
  have eg : ∀ args w, (callFunc 57 args).run Try.prog w = .ok (.enter 57 args) w := enters_fn Try.func57 (by kernel_rfl) rfl
  have hcon := Lib.hid (containsFunc_sp 57 #[.pointer (some ⟨w.heap.size, 0, none⟩)] (inSp a1) eg A0 c0 l0 (w.alloc (.cells #[.string a1] 9)) (Kd.C_alloc hr0 _) hc0
    (has_fn a1 w.heap.size l0 _ (by simp) (by simp)))
  clear hr0 hc0
  generalize l0.any (inSp a1) = r at hcon ⊢
  go_enter Try.func42, Try.ntmps42
  go_wp2_with (go_at_call 56; refine hcon.out.mono ?_; rintro e w' ⟨rfl, hb'⟩)
  go_ret
  exact ⟨rfl, ((Below.refl _ w).alloc (Nat.le_refl _) _).trans (hb'.mono (by simp))⟩
end Go.Proofs.Ytaedgbkeiankcaa.P
