/- Texts of the proofs of SpanAway, SpanEach, SpanOrder, SpanPoints, SpanSets, merged (OpenK). -/
import Derived.Test.YtjimijpkhmpilaaG1faadcb1
import Derived.Test.YtjimijpkhmpilaaGa0d5d060
/- Arguments opened, told by the print's kinds: slices of spans, of texts, of numbers. -/
namespace Go.Proofs.Ytjimijpkhmpilaa.P
open Go.RowKit Go.ChangeShapes Go.WideShapes Go.Deep Go.Joins
open Go.Proofs.YtjimijpkhmpilaaW.PrintWords (Kd)
set_option linter.unusedVariables false

/-- a slice that came in -/
structure KIn {T : Type} (k : Kd T) (w : World) (A : Option Addr) (n c : Nat) (l : List T) : Prop where
  len : l.length = n
  reads : k.C w A n l
  cap : n ≤ c
  max_ : n ≤ reachBytes
theorem kIn_of {T S : Type} {k : Kd S} {f : T → List Value} {size : Nat} {good : T → Prop} {w : World} {A : Option Addr} {n c : Nat} {l : List T} (g : T → S) (h : RowIn f size good w A n c l) (hsz : k.sz = size) (hf : ∀ x, (f x).length = size) (hK : ∀ x, good x → k.K w (g x) (f x)) : KIn k w A n c (l.map g) := by
  refine ⟨by rw [List.length_map]; exact h.len, ⟨by rw [List.length_map]; exact h.len, by have := h.max_; unfold reachBytes at this; omega, fun hn => ?_⟩, h.cap, h.max_⟩
  obtain ⟨b, o, rfl, hb, hc⟩ := h.row (by rintro rfl; have := h.len; simp at this; omega)
  refine ⟨_, rfl, fun j p hj => ?_⟩
  rw [List.getElem?_map] at hj
  obtain ⟨hjl, rfl⟩ : ∃ hjl : j < l.length, g l[j] = p := by
    cases e : l[j]? with
    | none => rw [e] at hj; simp at hj
    | some y =>
      obtain ⟨h1, rfl⟩ := List.getElem?_eq_some_iff.1 e
      rw [e] at hj
      exact ⟨h1, by simpa using hj⟩
  refine ⟨f l[j], by rw [hf, hsz], hK _ (h.good _ (List.getElem_mem hjl)), fun i u hu => ?_⟩
  have := hc j hjl i u hu
  rw [hsz]
  have e : (⟨b, o, none⟩ : Addr).add (j * size + i) = ⟨b, o + (j * size + i), none⟩ := by
    unfold Addr.add
    split
    · rename_i h0; rw [h0]; rfl
    · rfl
  rw [e]
  exact this
/-- texts that came in -/
structure KStr (w : World) (A : Option Addr) (n c : Nat) (l : List ByteArray) : Prop extends KIn Kd.string w A n c l where
  each : ∀ x ∈ l, x.size ≤ reachBytes
section
variable {H : Type} {enc : TypeId × Value → H} {w : World} {base : Nat} {r : Reach} {b0 : Nat} {v : Value} {d : DataW H} {p : List MemPlace}
theorem open_kspan (hv : Value.okWide Try.prog w r b0 22 v) (h : DataW.Trod enc Try.prog w base (fun _ => true) true 22 v d p) (hz : Sz Try.prog 22 d) :
    ∃ (A : Option Addr) (n c : Nat) (l : List S34), v = .slice A n c ∧ KIn k34 w A n c l := by
  obtain ⟨A, n, c, l, rfl, hin⟩ := open_row' (T := ByteArray × ByteArray) (f := fun x => [.string x.1, .string x.2]) (size := 2) (good := fun _ => True) (ByteArray.empty, ByteArray.empty) Try.underlying22 (by kernel_rfl) (by omega) (by rw [show Try.prog.bytesOf 34 = 32 by kernel_rfl]; omega) (fun n cs y ht hze => by
    obtain ⟨_, y0, h0, z0⟩ := trod_field Try.underlying34 ht hze 0 9 0 1 rfl (by kernel_rfl)
    obtain ⟨_, y1, h1, z1⟩ := trod_field Try.underlying34 ht hze 1 9 1 1 rfl (by kernel_rfl)
    have hl : cs.length = 2 := (trod_len Try.underlying34 ht).trans (by kernel_rfl)
    match cs, hl with
    | [u0, u1], _ =>
      simp only [List.drop_zero, List.drop_succ_cons, List.take_succ_cons, List.take_zero] at h0 h1
      obtain ⟨s, e0, ey, _⟩ := DataW.trod_string Try.underlying9 h0
      obtain ⟨t, e1, ey1, _⟩ := DataW.trod_string Try.underlying9 h1
      simp only [List.cons.injEq, and_true] at e0 e1
      subst e0 e1
      exact ⟨(s, t), rfl, trivial⟩) hz hv h
  exact ⟨A, n, c, _, rfl, kIn_of (k := k34) (fun x => S34.mk x.1 x.2) hin rfl (fun _ => rfl) (fun x _ => k34_mk _ _)⟩
theorem open_kstr (hv : Value.okWide Try.prog w r b0 31 v) (h : DataW.Trod enc Try.prog w base (fun _ => true) true 31 v d p) (hz : Sz Try.prog 31 d) :
    ∃ (A : Option Addr) (n c : Nat) (l : List ByteArray), v = .slice A n c ∧ KStr w A n c l := by
  obtain ⟨A, n, c, l, rfl, hin⟩ := open_row' (T := ByteArray) (f := fun x => [.string x]) (size := 1) (good := fun x => x.size ≤ reachBytes) ByteArray.empty Try.underlying31 (by kernel_rfl) (by omega) (by rw [show Try.prog.bytesOf 9 = 16 by kernel_rfl]; omega) (fun n cs y ht hze => by
      obtain ⟨s, e0, ey, _⟩ := DataW.trod_string Try.underlying9 ht
      refine ⟨s, e0, ?_⟩
      rw [ey] at hze
      have := sz_string hze
      rwa [Array.length_toList] at this) hz hv h
  have hk := kIn_of (k := Kd.string) (fun x => x) hin rfl (fun _ => rfl) (fun x _ => rfl)
  rw [List.map_id'] at hk
  exact ⟨A, n, c, _, rfl, ⟨hk, fun x hx => hin.good x hx⟩⟩
end
end Go.Proofs.Ytjimijpkhmpilaa.P
