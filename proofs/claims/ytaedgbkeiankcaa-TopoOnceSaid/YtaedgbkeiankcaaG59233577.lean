/- Texts of the proofs of TopoOnce, TopoTells, merged (IxSh). -/
import Derived.Deep.LoopGhost
import Derived.Lib.SliceRun
import Derived.Test.YtaedgbkeiankcaaWWords
import Derived.Test.YtaedgbkeiankcaaWLast
import Derived.Test.YtaedgbkeiankcaaWTab
import Derived.Test.YtaedgbkeiankcaaWQPut
import Derived.Test.YtaedgbkeiankcaaWApart
import Derived.Test.YtaedgbkeiankcaaWArr
import Derived.Test.YtaedgbkeiankcaaWZeros
import Derived.Test.YtaedgbkeiankcaaWFoot
import Derived.Test.YtaedgbkeiankcaaWKept
import Derived.Test.YtaedgbkeiankcaaWShare
import Derived.Test.YtaedgbkeiankcaaWN
import Derived.Test.YtaedgbkeiankcaaWEqStruct
import Derived.Test.YtaedgbkeiankcaaWRepsOne
import Derived.Test.YtaedgbkeiankcaaWGuard
import Derived.Test.YtaedgbkeiankcaaWNEv
import Derived.Test.YtaedgbkeiankcaaWMore
import Derived.Test.YtaedgbkeiankcaaG64eb9ef8
import Derived.Test.YtaedgbkeiankcaaGca2bd920
import Derived.Test.YtaedgbkeiankcaaGff33e446
import Derived.Test.YtaedgbkeiankcaaG5fc94eef
import Derived.Test.YtaedgbkeiankcaaG4bcd870f
import Derived.Test.YtaedgbkeiankcaaG132b0fe3
namespace Go.Proofs.Ytaedgbkeiankcaa.P
open Go.RowKit
open Go.Proofs.YtaedgbkeiankcaaW.PrintWords (Kd)
set_option linter.unusedVariables false
/-- a function of an element, in worlds that have grown out of w -/
def FnK_sh (g : Nat) (lb : Array Value) (p : S37 → Bool) (xs : List S37) (w : World) : Prop :=
  ∀ (W : World) (x : S37) (c : List Value), Ext w W → x ∈ xs → k37.K W x c → Calls Try.prog g (#[.agg c.toArray] ++ lb) W fun e w' => e = .returned (.bool (p x)) ∧ Ext W w'
set_option maxHeartbeats 4000000 in
set_option maxRecDepth 100000 in
theorem indexK_sh (g : Nat) (lb : Array Value) (p : S37 → Bool) (eg : ∀ args w, (callFunc g args).run Try.prog w = .ok (.enter g args) w) (A : Option Addr) (c : Nat) (xs : List S37) (w : World)
    (hr : Kd.C k37 w A xs.length xs) (hp : FnK_sh g lb p xs w) :
    Calls Try.prog 40 #[.slice A xs.length c, .func (.func g) #[] lb] w fun e w' => e = .returned (.int .i64 (idxR p xs)) ∧ Ext w w' := by
  have hm := hr.2.1
  have HR := Lib.hid hr
  have HP := Lib.hid hp
  clear hr hp
  go_enter Try.func40, Try.ntmps40
  go_wp2
  go_loopg [5, 8] xs.length (fun gg _ s8 wr => ∃ kk : Nat, kk ≤ xs.length ∧ xs.length - kk ≤ gg ∧ s8 = .int .i64 kk ∧ Hid (Ext w wr) ∧ Hid (∀ j (h : j < xs.length), j < kk → p xs[j] = false))
  case atStart => exact ⟨0, Nat.zero_le _, by omega, rfl, Lib.hid (Ext.refl w), Lib.hid (fun j h hj => absurd hj (Nat.not_lt_zero _))⟩
  case round =>
    obtain ⟨kk, hkk, hg, rfl, BW, HA⟩ := hrel
    by_cases hlt : kk < xs.length
    · have hltz : (kk : Int) < (xs.length : Int) := by omega
      obtain ⟨ad, rfl, hrow⟩ := (Kd.C_below HR.out BW.out.below).2.2 (by omega)
      obtain ⟨y, hlen, hK, hcl0⟩ := hrow kk xs[kk] (List.getElem?_eq_getElem hlt)
      have hlen : y.length = 3 := hlen
      have hcl : ∀ i u, y[i]? = some u → wr.cell? (ad.add (kk * 3 + i)) = some u := hcl0
      have hcall := HP.out wr xs[kk] y BW.out (List.getElem_mem hlt) hK
      obtain ⟨c0, c1, c2, rfl⟩ : ∃ c0 c1 c2, y = [c0, c1, c2] := by
        match y, hlen with
        | [c0, c1, c2], _ => exact ⟨c0, c1, c2, rfl⟩
      have f0 := hcl 0 c0 rfl
      rw [Nat.add_zero] at f0
      have f1 := hcl 1 c1 rfl
      rw [add_plus _ _ 1 (by omega)] at f1
      have f2 := hcl 2 c2 rfl
      rw [add_plus _ _ 2 (by omega)] at f2
      obtain ⟨x, hx⟩ : ∃ x, x = xs[kk] := ⟨_, rfl⟩
      rw [← hx] at hcall
      have HY := Lib.hid hx
      clear hx hcl hcl0 hlen hK hrow
      cases hq : p x with
      | true =>
        rw [hq] at hcall
        have HQ := Lib.hid hq
        clear hq
        go_wp2_with fail
        refine hcall.mono ?_
        rintro e w' ⟨rfl, hb'⟩
        replace hb' := BW.out.trans hb'
        go_wp2
        go_ret
        refine ⟨?_, hb'⟩
        rw [idxR_hit p xs kk hlt (fun j hj => HA.out j (by omega) hj) (by rw [← HY.out]; exact HQ.out)]
        rfl
      | false =>
        rw [hq] at hcall
        have HQ := Lib.hid hq
        clear hq
        go_wp2_with fail
        refine hcall.mono ?_
        rintro e w' ⟨rfl, hb'⟩
        replace hb' := BW.out.trans hb'
        go_wp2
        go_roundg (xs.length - (kk + 1))
        case measure => omega
        case rel =>
          refine ⟨kk + 1, by omega, by omega, by go_num, Lib.hid hb', Lib.hid (fun j h hj => ?_)⟩
          by_cases e : j = kk
          · subst e
            rw [← HY.out]; exact HQ.out
          · exact HA.out j h (by omega)
    · have hltz : ¬ (kk : Int) < (xs.length : Int) := by omega
      have : kk = xs.length := by omega
      subst this
      go_wp2
      go_ret
      refine ⟨?_, BW.out⟩
      rw [idxR_miss p xs (fun x hx => by obtain ⟨j, hj, rfl⟩ := List.getElem_of_mem hx; exact HA.out j hj hj)]
      rfl
theorem containsK_sh (g : Nat) (lb : Array Value) (p : S37 → Bool) (eg : ∀ args w, (callFunc g args).run Try.prog w = .ok (.enter g args) w) (A : Option Addr) (c : Nat) (xs : List S37) (w : World)
    (hr : Kd.C k37 w A xs.length xs) (hp : FnK_sh g lb p xs w) :
    Calls Try.prog 32 #[.slice A xs.length c, .func (.func g) #[] lb] w fun e w' => e = .returned (.bool (xs.any p)) ∧ Ext w w' := by
  have hcon := Lib.hid (indexK_sh g lb p eg A c xs w hr hp)
  rw [← idxR_any]
  generalize idxR p xs = r at hcon ⊢
  clear hr hp
  go_enter Try.func32, Try.ntmps32
  go_wp2_with (go_at_call 40; refine hcon.out.mono ?_; rintro e w' ⟨rfl, hb⟩)
  go_ret
  exact ⟨rfl, hb⟩
end Go.Proofs.Ytaedgbkeiankcaa.P
