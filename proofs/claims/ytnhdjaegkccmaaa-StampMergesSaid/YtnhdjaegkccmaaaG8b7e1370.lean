/- Texts of the proofs of StampMerges, merged (OpenG). -/
import Derived.Test.YtnhdjaegkccmaaaWWords
import Derived.Test.YtnhdjaegkccmaaaWLast
import Derived.Test.YtnhdjaegkccmaaaWTab
import Derived.Test.YtnhdjaegkccmaaaWQPut
import Derived.Test.YtnhdjaegkccmaaaWApart
import Derived.Test.YtnhdjaegkccmaaaWArr
import Derived.Test.YtnhdjaegkccmaaaWZeros
import Derived.Test.YtnhdjaegkccmaaaWFoot
import Derived.Test.YtnhdjaegkccmaaaWKept
import Derived.Test.YtnhdjaegkccmaaaWShare
import Derived.Test.YtnhdjaegkccmaaaWN
import Derived.Test.YtnhdjaegkccmaaaWEqStruct
import Derived.Test.YtnhdjaegkccmaaaWRepsOne
import Derived.Test.YtnhdjaegkccmaaaWGuard
import Derived.Test.YtnhdjaegkccmaaaWNEv
import Derived.Test.YtnhdjaegkccmaaaWMore
import Derived.Test.YtnhdjaegkccmaaaGf8a1be9d
import Derived.Test.YtnhdjaegkccmaaaG6fd917f9
import Derived.Test.YtnhdjaegkccmaaaG5069bfb7
import Derived.Test.YtnhdjaegkccmaaaGc4c9ef5b
import Derived.Test.YtnhdjaegkccmaaaGd76a5295
namespace Go.Proofs.Ytnhdjaegkccmaaa.P
open Go.RowKit Go.ChangeShapes Go.WideShapes Go.Deep Go.Joins
open Go.Proofs.YtnhdjaegkccmaaaW.PrintWords (Kd)
set_option linter.unusedVariables false
/-- a slice that came in -/
structure KIn {T : Type} (k : Kd T) (w : World) (A : Option Addr) (n c : Nat) (l : List T) : Prop where
  len : l.length = n
  reads : k.C w A n l
  cap : n ≤ c
  max_ : n ≤ reachBytes
theorem kIn_of {T S : Type} {k : Kd S} {f : T → List Value} {size : Nat} {good : T → Prop} {w : World} {A : Option Addr} {n c : Nat} {l : List T} (g : T → S) (h : RowIn f size good w A n c l) (hsz : k.sz = size) (hf : ∀ x, (f x).length = size) (hK : ∀ x, good x → k.K w (g x) (f x)) : KIn k w A n c (l.map g) := by
  refine ⟨by rw [List.length_map]; exact h.len, ⟨by rw [List.length_map]; exact h.len, by have := h.max_; unfold reachBytes at this; omega, fun hn => ?_⟩, h.cap, h.max_⟩
  obtain ⟨b, o, rfl, hb, hc⟩ := h.row (by rintro rfl; have := h.len; simp at this; omega)
  refine ⟨_, rfl, fun j p hj => ?_⟩
  rw [List.getElem?_map] at hj
  obtain ⟨hjl, rfl⟩ : ∃ hjl : j < l.length, g l[j] = p := by
    cases e : l[j]? with
    | none => rw [e] at hj; simp at hj
    | some y =>
      obtain ⟨h1, rfl⟩ := List.getElem?_eq_some_iff.1 e
      rw [e] at hj
      exact ⟨h1, by simpa using hj⟩
  refine ⟨f l[j], by rw [hf, hsz], hK _ (h.good _ (List.getElem_mem hjl)), fun i u hu => ?_⟩
  have := hc j hjl i u hu
  rw [hsz]
  have e : (⟨b, o, none⟩ : Addr).add (j * size + i) = ⟨b, o + (j * size + i), none⟩ := by
    unfold Addr.add
    split
    · rename_i h0; rw [h0]; rfl
    · rfl
  rw [e]
  exact this
end Go.Proofs.Ytnhdjaegkccmaaa.P
