/- Texts of the proofs of TopoOnce, TopoTells, merged (OpenG, OpenSh). -/
import Derived.Test.YtaedgbkeiankcaaWWords
import Derived.Test.YtaedgbkeiankcaaWLast
import Derived.Test.YtaedgbkeiankcaaWTab
import Derived.Test.YtaedgbkeiankcaaWQPut
import Derived.Test.YtaedgbkeiankcaaWApart
import Derived.Test.YtaedgbkeiankcaaWArr
import Derived.Test.YtaedgbkeiankcaaWZeros
import Derived.Test.YtaedgbkeiankcaaWFoot
import Derived.Test.YtaedgbkeiankcaaWKept
import Derived.Test.YtaedgbkeiankcaaWShare
import Derived.Test.YtaedgbkeiankcaaWN
import Derived.Test.YtaedgbkeiankcaaWEqStruct
import Derived.Test.YtaedgbkeiankcaaWRepsOne
import Derived.Test.YtaedgbkeiankcaaWGuard
import Derived.Test.YtaedgbkeiankcaaWNEv
import Derived.Test.YtaedgbkeiankcaaWMore
import Derived.Test.YtaedgbkeiankcaaG64eb9ef8
import Derived.Test.YtaedgbkeiankcaaGca2bd920
import Derived.Test.YtaedgbkeiankcaaGff33e446
import Derived.Test.YtaedgbkeiankcaaG1345e055
import Derived.Test.YtaedgbkeiankcaaG5fc94eef
import Derived.Test.YtaedgbkeiankcaaG4bcd870f
namespace Go.Proofs.Ytaedgbkeiankcaa.P
open Go.RowKit Go.ChangeShapes Go.WideShapes Go.Deep Go.Joins
open Go.Proofs.YtaedgbkeiankcaaW.PrintWords (Kd)
set_option linter.unusedVariables false
/-- a slice that came in -/
structure KIn {T : Type} (k : Kd T) (w : World) (A : Option Addr) (n c : Nat) (l : List T) : Prop where
  len : l.length = n
  reads : k.C w A n l
  cap : n ≤ c
  max_ : n ≤ reachBytes
theorem kIn_of {T S : Type} {k : Kd S} {f : T → List Value} {size : Nat} {good : T → Prop} {w : World} {A : Option Addr} {n c : Nat} {l : List T} (g : T → S) (h : RowIn f size good w A n c l) (hsz : k.sz = size) (hf : ∀ x, (f x).length = size) (hK : ∀ x, good x → k.K w (g x) (f x)) : KIn k w A n c (l.map g) := by
  refine ⟨by rw [List.length_map]; exact h.len, ⟨by rw [List.length_map]; exact h.len, by have := h.max_; unfold reachBytes at this; omega, fun hn => ?_⟩, h.cap, h.max_⟩
  obtain ⟨b, o, rfl, hb, hc⟩ := h.row (by rintro rfl; have := h.len; simp at this; omega)
  refine ⟨_, rfl, fun j p hj => ?_⟩
  rw [List.getElem?_map] at hj
  obtain ⟨hjl, rfl⟩ : ∃ hjl : j < l.length, g l[j] = p := by
    cases e : l[j]? with
    | none => rw [e] at hj; simp at hj
    | some y =>
      obtain ⟨h1, rfl⟩ := List.getElem?_eq_some_iff.1 e
      rw [e] at hj
      exact ⟨h1, by simpa using hj⟩
  refine ⟨f l[j], by rw [hf, hsz], hK _ (h.good _ (List.getElem_mem hjl)), fun i u hu => ?_⟩
  have := hc j hjl i u hu
  rw [hsz]
  have e : (⟨b, o, none⟩ : Addr).add (j * size + i) = ⟨b, o + (j * size + i), none⟩ := by
    unfold Addr.add
    split
    · rename_i h0; rw [h0]; rfl
    · rfl
  rw [e]
  exact this
end Go.Proofs.Ytaedgbkeiankcaa.P
namespace Go.Proofs.Ytaedgbkeiankcaa.P
open Go.RowKit Go.ChangeShapes Go.WideShapes Go.Deep Go.Joins
open Go.Proofs.YtaedgbkeiankcaaW.PrintWords (Kd)
set_option linter.unusedVariables false
structure ShdRaw where
  a : ByteArray
  b : ByteArray
  A : Option Addr
  m : Nat
  c : Nat
  l : List Int
abbrev fInt (x : Int) : List Value := [.int .i64 x]
section
variable {H : Type} {enc : TypeId × Value → H} {w : World} {base : Nat} {r : Reach} {b0 : Nat} {v : Value} {d : DataW H} {p : List MemPlace}
theorem open_intsT {n : Nat} {v : Value} {y : DataW H × List MemPlace} (ht : DataW.trod enc Try.prog w base (fun _ => true) true n 32 [v] = some y) (hz : Sz Try.prog 32 y.1) : ∃ (A : Option Addr) (n c : Nat) (l : List Int), v = .slice A n c ∧ RowIn fInt 1 (fun _ => True) w A n c l :=
  open_row (0 : Int) Try.underlying32 (by kernel_rfl) (by omega) (by rw [show Try.prog.bytesOf 3 = 8 by kernel_rfl]; omega) (fun n cs y ht hze => by
    obtain ⟨a, e0, _, _⟩ := DataW.trod_int Try.underlying3 ht
    exact ⟨a, e0, trivial⟩) hz ht
abbrev fShd (x : ShdRaw) : List Value := [.string x.a, .string x.b, .slice x.A x.m x.c]
theorem open_kshard (hv : Value.okWide Try.prog w r b0 22 v) (h : DataW.Trod enc Try.prog w base (fun _ => true) true 22 v d p) (hz : Sz Try.prog 22 d) :
    ∃ (A : Option Addr) (n c : Nat) (l : List S37), v = .slice A n c ∧ KIn k37 w A n c l := by
  obtain ⟨A, n, c, l, rfl, hin⟩ := open_row' (T := ShdRaw) (f := fShd) (size := 3) (good := fun x => RowIn fInt 1 (fun _ => True) w x.A x.m x.c x.l) ⟨ByteArray.empty, ByteArray.empty, none, 0, 0, []⟩ Try.underlying22 (by kernel_rfl) (by omega) (by rw [show Try.prog.bytesOf 37 = 56 by kernel_rfl]; omega) (fun n cs y ht hze => by
    obtain ⟨_, y0, h0, z0⟩ := trod_field Try.underlying37 ht hze 0 35 0 2 rfl (by kernel_rfl)
    obtain ⟨_, y1, h1, z1⟩ := trod_field Try.underlying37 ht hze 1 32 2 1 rfl (by kernel_rfl)
    have hl : cs.length = 3 := (trod_len Try.underlying37 ht).trans (by kernel_rfl)
    match cs, hl with
    | [u0, u1, u2], _ =>
      simp only [List.drop_zero, List.drop_succ_cons, List.take_succ_cons, List.take_zero] at h0 h1
      obtain ⟨_, y2, h2, z2⟩ := trod_field Try.underlying35 h0 z0 0 9 0 1 rfl (by kernel_rfl)
      obtain ⟨_, y3, h3, z3⟩ := trod_field Try.underlying35 h0 z0 1 9 1 1 rfl (by kernel_rfl)
      simp only [List.drop_zero, List.drop_succ_cons, List.take_succ_cons, List.take_zero] at h2 h3
      obtain ⟨s, e0, ey, _⟩ := DataW.trod_string Try.underlying9 h2
      obtain ⟨t, e1, ey1, _⟩ := DataW.trod_string Try.underlying9 h3
      simp only [List.cons.injEq, and_true] at e0 e1
      subst e0 e1
      obtain ⟨A', n', c', l', rfl, hin⟩ := open_intsT h1 z1
      exact ⟨⟨s, t, A', n', c', l'⟩, rfl, hin⟩) hz hv h
  exact ⟨A, n, c, _, rfl, kIn_of (k := k37) (fun x => S37.mk (S35.mk x.a x.b) x.l) hin rfl (fun _ => rfl) (fun x hx => by
    have hk := kIn_of (k := Kd.int .i64) (fun x => x) hx rfl (fun _ => rfl) (fun x _ => rfl)
    rw [List.map_id'] at hk
    obtain ⟨hk1, hk2, hk3, _⟩ := hk
    obtain ⟨a, b, A', m', c', l'⟩ := x
    dsimp only at hk1 hk2 hk3 ⊢
    subst hk1
    exact k37_mk w _ hk3 hk2)⟩
end
end Go.Proofs.Ytaedgbkeiankcaa.P
