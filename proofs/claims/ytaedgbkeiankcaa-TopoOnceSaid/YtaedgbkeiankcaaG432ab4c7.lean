/- Texts of the proofs of TopoOnce, TopoTells, merged (ToF). -/
import Derived.Test.YtaedgbkeiankcaaWWords
import Derived.Test.YtaedgbkeiankcaaWLast
import Derived.Test.YtaedgbkeiankcaaWTab
import Derived.Test.YtaedgbkeiankcaaWQPut
import Derived.Test.YtaedgbkeiankcaaWApart
import Derived.Test.YtaedgbkeiankcaaWArr
import Derived.Test.YtaedgbkeiankcaaWZeros
import Derived.Test.YtaedgbkeiankcaaWFoot
import Derived.Test.YtaedgbkeiankcaaWKept
import Derived.Test.YtaedgbkeiankcaaWShare
import Derived.Test.YtaedgbkeiankcaaWN
import Derived.Test.YtaedgbkeiankcaaWEqStruct
import Derived.Test.YtaedgbkeiankcaaWRepsOne
import Derived.Test.YtaedgbkeiankcaaWGuard
import Derived.Test.YtaedgbkeiankcaaWNEv
import Derived.Test.YtaedgbkeiankcaaWMore
import Derived.Test.YtaedgbkeiankcaaG64eb9ef8
import Derived.Test.YtaedgbkeiankcaaGca2bd920
import Derived.Test.YtaedgbkeiankcaaGff33e446
import Derived.Test.YtaedgbkeiankcaaG5fc94eef
import Derived.Test.YtaedgbkeiankcaaG4bcd870f
import Derived.Test.YtaedgbkeiankcaaG132b0fe3
import Derived.Test.YtaedgbkeiankcaaG59233577
import Derived.Test.YtaedgbkeiankcaaG9f496484
namespace Go.Proofs.Ytaedgbkeiankcaa.P
open Go.RowKit
open Go.Proofs.YtaedgbkeiankcaaW.PrintWords (Kd Aside0)
set_option linter.unusedVariables false
abbrev Shd := S37
theorem one_span {w : World} {p : Nat} (x : S35) (h0 : w.cell? ⟨p, 0, none⟩ = some (.string x.f0)) (h1 : w.cell? ⟨p, 1, none⟩ = some (.string x.f1)) : Kd.C k35 w (some ⟨p, 0, none⟩) 1 [x] := by
  refine ⟨rfl, by omega, fun _ => ⟨_, rfl, fun j q hj => ?_⟩⟩
  obtain ⟨hjl, rfl⟩ := List.getElem?_eq_some_iff.1 hj
  have hj0 : j = 0 := by simp at hjl; omega
  subst hj0
  refine ⟨_, rfl, k35_mk w x, fun i u hu => ?_⟩
  have e : (⟨p, 0, none⟩ : Addr).add (0 * k35.sz + i) = ⟨p, i, none⟩ := by
    rw [Nat.zero_mul, Nat.zero_add]
    unfold Addr.add
    split <;> simp_all
  rw [e]
  match i, hu with
  | 0, hu => rw [← hu]; exact h0
  | 1, hu => rw [← hu]; exact h1
set_option maxRecDepth 100000 in
theorem find_cl (key : ByteArray) (b : Nat) (W : World) (x : Shd) (c : List Value) (hK : k37.K W x c) (hb : W.cell? ⟨b, 0, none⟩ = some (.string key)) :
    Calls Try.prog 41 #[.agg c.toArray, .pointer (some ⟨b, 0, none⟩)] W fun e w' => e = .returned (.bool (inSp key x.f0)) ∧ Ext W w' := by
  obtain ⟨A2, c2, rfl, _, _⟩ := k37_open hK
  obtain ⟨⟨xf, xt⟩, ns⟩ := x
  have hcon := Lib.hid (fun (A : Option Addr) (c : Nat) (w : World) (hr : Kd.C k35 w A 1 [(⟨xf, xt⟩ : S35)]) (hc : 1 ≤ c) => span_Has.calls A c [(⟨xf, xt⟩ : S35)] key (inSp key ⟨xf, xt⟩) w hr hc (by unfold span_Has.f; simp))
  clear hK
  dsimp only
  generalize inSp key ⟨xf, xt⟩ = r at hcon ⊢
  have hbl := World.block_lt_of_cell? W _ hb
  go_enter Try.func41, Try.ntmps41
  go_wp2_with (go_at_call 42; refine (hcon.out _ _ _ (one_span ⟨xf, xt⟩ (by simp) (by simp)) (Nat.le_refl _)).mono ?_; rintro e w' ⟨rfl, hx⟩)
  go_ret
  exact ⟨rfl, Ext.trans (((Ext.refl _).alloc _).alloc _) hx⟩
def topo_Find.f (l0 : List Shd) (a1 : ByteArray) : Option Int := some (max (idxR (fun x : Shd => inSp a1 x.f0) l0) 0)
theorem topo_Find.calls (A0 : Option Addr) (c0 : Nat) (l0 : List Shd) (a1 : ByteArray) (r : Int) (w : World) (hr0 : Kd.C k37 w A0 l0.length l0) (hc0 : l0.length ≤ c0) (h : topo_Find.f l0 a1 = some r) :
    Calls Try.prog 22 #[.slice A0 l0.length c0, .string a1] w fun e w' => e = .returned (.int .i64 r) ∧ Below w.heap.size w w' := by
  obtain rfl := Option.some.inj h
  clear h
  have eg : ∀ args w, (callFunc 41 args).run Try.prog w = .ok (.enter 41 args) w := enters_fn Try.func41 (by kernel_rfl) rfl
  have hcon := Lib.hid (indexK_sh 41 #[.pointer (some ⟨w.heap.size, 0, none⟩)] (fun x : Shd => inSp a1 x.f0) eg A0 c0 l0 (w.alloc (.cells #[.string a1] 9)) (Kd.C_alloc hr0 _)
    (fun W x c hx _ hK => (find_cl a1 w.heap.size W x c hK (Ext.cell hx (World.block_lt_of_cell? _ _ (by simp : (w.alloc (.cells #[.string a1] 9)).cell? ⟨w.heap.size, 0, none⟩ = some (.string a1))) (by simp))).mono fun e w' ⟨he, hy⟩ => ⟨he, hy⟩))
  generalize idxR (fun x : Shd => inSp a1 x.f0) l0 = q at hcon ⊢
  clear hr0 hc0 eg
  by_cases hq : q < 0
  · have hm : max q 0 = 0 := by omega
    rw [hm]
    clear hm
    go_enter Try.func22, Try.ntmps22
    go_wp2_with (go_at_call 40; refine hcon.out.mono ?_; rintro e w' ⟨rfl, hx⟩)
    go_ret
    exact ⟨rfl, (Ext.trans ((Ext.refl w).alloc _) hx).below⟩
  · have hm : max q 0 = q := by omega
    rw [hm]
    clear hm
    go_enter Try.func22, Try.ntmps22
    go_wp2_with (go_at_call 40; refine hcon.out.mono ?_; rintro e w' ⟨rfl, hx⟩)
    go_ret
    exact ⟨rfl, (Ext.trans ((Ext.refl w).alloc _) hx).below⟩
end Go.Proofs.Ytaedgbkeiankcaa.P
