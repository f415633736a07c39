/- Arguments opened: a list of things. -/
import Derived.Test.YtbmpecfhflkbeaaRow
namespace Go.Proofs.Ytbmpecfhflkbeaa
open Go.RowKit Go.ChangeShapes Go.WideShapes Go.Deep Go.Joins

structure Thing where
  k : Int
  n : Int
  s : ByteArray
  b : Bool
  t : St
  A : Option Addr
  m : Nat
  c : Nat
  l : List St
abbrev fTh (x : Thing) : List Value := [.int .i64 x.k, .int .i64 x.n, .string x.s, .bool x.b, .int .i64 x.t.t, .int .i64 x.t.n, .slice x.A x.m x.c]
structure ThingIn (w : World) (x : Thing) : Prop where
  sts : StsIn w x.A x.m x.c x.l
  str : x.s.size ≤ reachBytes
  n64 : in64 x.n
  st : StIn x.t
abbrev ThingsIn (w : World) := RowIn fTh 7 (ThingIn w) w
def Thing.z : Thing := ⟨0, 0, ByteArray.empty, false, St.z, none, 0, 0, []⟩
section
variable {H : Type} {enc : TypeId × Value → H} {w : World} {base : Nat} {r : Reach} {b0 : Nat} {v : Value} {d : DataW H} {p : List MemPlace}
theorem open_stT {n : Nat} {cs : List Value} {y : DataW H × List MemPlace} (ht : DataW.trod enc Try.prog w base (fun _ => true) true n 39 cs = some y) (hze : Sz Try.prog 39 y.1) : ∃ x : St, cs = fSt x ∧ StIn x := by
  obtain ⟨_, _, h0, _⟩ := trod_field Try.underlying39 ht hze 0 2 0 1 rfl (by kernel_rfl)
  obtain ⟨_, _, h1, _⟩ := trod_field Try.underlying39 ht hze 1 3 1 1 rfl (by kernel_rfl)
  have hl : cs.length = 2 := (trod_len Try.underlying39 ht).trans (by kernel_rfl)
  obtain ⟨a, e0, _, wa⟩ := DataW.trod_int Try.underlying2 h0
  obtain ⟨b, e1, _, wb⟩ := DataW.trod_int Try.underlying3 h1
  match cs, hl with
  | [u, v], _ =>
    simp at e0 e1
    subst e0 e1
    exact ⟨⟨a, b⟩, rfl, in64_of wa, in64_of wb⟩
theorem open_stsT {n : Nat} {v : Value} {y : DataW H × List MemPlace} (ht : DataW.trod enc Try.prog w base (fun _ => true) true n 30 [v] = some y) (hz : Sz Try.prog 30 y.1) : ∃ (A : Option Addr) (n c : Nat) (l : List St), v = .slice A n c ∧ StsIn w A n c l :=
  open_row St.z Try.underlying30 (by kernel_rfl) (by omega) (by rw [show Try.prog.bytesOf 39 = 16 by kernel_rfl]; omega) (fun n cs y ht hze => open_stT ht hze) hz ht
theorem open_things (hv : Value.okWide Try.prog w r b0 41 v) (h : DataW.Trod enc Try.prog w base (fun _ => true) true 41 v d p) (_hp : ∀ x ∈ p, x.block < w.heap.size) (hz : Sz Try.prog 41 d) :
    ∃ (A : Option Addr) (n c : Nat) (l : List Thing), v = .slice A n c ∧ ThingsIn w A n c l :=
  open_row' Thing.z Try.underlying41 (by kernel_rfl) (by omega) (by rw [show Try.prog.bytesOf 69 = 80 by kernel_rfl]; omega) (fun n cs y ht hze => by
    obtain ⟨_, _, h0, _⟩ := trod_field Try.underlying69 ht hze 0 3 0 1 rfl (by kernel_rfl)
    obtain ⟨_, _, h1, _⟩ := trod_field Try.underlying69 ht hze 1 2 1 1 rfl (by kernel_rfl)
    obtain ⟨_, y2, h2, z2⟩ := trod_field Try.underlying69 ht hze 2 9 2 1 rfl (by kernel_rfl)
    obtain ⟨_, _, h3, _⟩ := trod_field Try.underlying69 ht hze 3 4 3 1 rfl (by kernel_rfl)
    obtain ⟨_, _, h4, z4⟩ := trod_field Try.underlying69 ht hze 4 39 4 2 rfl (by kernel_rfl)
    obtain ⟨_, _, h5, z5⟩ := trod_field Try.underlying69 ht hze 5 30 6 1 rfl (by kernel_rfl)
    have hl : cs.length = 7 := (trod_len Try.underlying69 ht).trans (by kernel_rfl)
    match cs, hl with
    | [u0, u1, u2, u3, u4, u5, u6], _ =>
      simp only [List.drop_zero, List.drop_succ_cons, List.take_succ_cons, List.take_zero] at h0 h1 h2 h3 h4 h5
      obtain ⟨a, e0, _, wa⟩ := DataW.trod_int Try.underlying3 h0
      obtain ⟨b, e1, _, wb⟩ := DataW.trod_int Try.underlying2 h1
      obtain ⟨s, e2, ey, _⟩ := DataW.trod_string Try.underlying9 h2
      obtain ⟨t, e3, _⟩ := DataW.trod_bool Try.underlying4 h3
      obtain ⟨x, e4, wx⟩ := open_stT h4 z4
      obtain ⟨A, n, c, l, e5, hin⟩ := open_stsT h5 z5
      subst ey
      have hs := sz_string z2
      rw [Array.length_toList] at hs
      simp only [List.cons.injEq, and_true] at e0 e1 e2 e3 e4
      obtain ⟨e4, e4'⟩ := e4
      subst e0 e1 e2 e3 e4 e4' e5
      exact ⟨⟨a, b, s, t, x, A, n, c, l⟩, rfl, hin, hs, in64_of wb, wx⟩) hz hv h
end
end Go.Proofs.Ytbmpecfhflkbeaa
