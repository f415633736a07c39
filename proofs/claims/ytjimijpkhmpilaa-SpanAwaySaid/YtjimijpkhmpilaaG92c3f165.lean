/- Texts of the proofs of SpanAway, SpanEach, SpanOrder, merged (PAlg). -/
import Derived.Test.YtjimijpkhmpilaaGe319c43b
import Derived.Test.YtjimijpkhmpilaaG9a2a2aa9
/- Plain: Union, Cut, Less by their keys. -/
namespace Go.Proofs.Ytjimijpkhmpilaa.P
open Go.RowKit Go.Proofs.YtjimijpkhmpilaaW.PrintWords
set_option linter.unusedVariables false

theorem own_some_ (l : List S34) (h : l.length < 4398046511104) : folkmootlaw03_own.f l = some l := by
  unfold folkmootlaw03_own.f
  simp [h]
def cutL (x y : List S34) : List S34 := cutN (x.length + y.length) x y
theorem cutL_f (x y : List S34) (h : x.length + y.length < 4398046511104) : span_Cut.f x y = some (cutL x y) := by unfold span_Cut.f; rw [if_pos h]; rfl
theorem unionL_f (x : List S34) (h : x.length < 4398046511104) : span_Union.f x = some (unionL x) := by unfold span_Union.f; rw [if_pos h]
theorem cutL_can {x y : List S34} (hx : Sp.Can (x.map toSp)) (hy : Sp.Can (y.map toSp)) : Sp.Can ((cutL x y).map toSp) := (cut_spec _ x y (Nat.le_refl _) hx hy).1
theorem cutL_any {x y : List S34} (hx : Sp.Can (x.map toSp)) (hy : Sp.Can (y.map toSp)) (k : ByteArray) : (cutL x y).any (inSp k) = (x.any (inSp k) && y.any (inSp k)) :=
  Bool.eq_iff_iff.2 (by
    rw [any_iff, Bool.and_eq_true, any_iff, any_iff]
    exact (cut_spec _ x y (Nat.le_refl _) hx hy).2 (tx k))
theorem cutL_len (x y : List S34) : (cutL x y).length ≤ x.length + y.length := cut_len _ x y
theorem lessL_can {x y : List S34} (hx : Sp.Can (x.map toSp)) (hy : Sp.Can (y.map toSp)) : Sp.Can ((lessAll x y).map toSp) := (all_spec y hy x hx).1
theorem lessL_any {x y : List S34} (hx : Sp.Can (x.map toSp)) (hy : Sp.Can (y.map toSp)) (k : ByteArray) : (lessAll x y).any (inSp k) = (x.any (inSp k) && !y.any (inSp k)) :=
  Bool.eq_iff_iff.2 (by
    have := (all_spec y hy x hx).2 (tx k)
    rw [← any_iff, ← any_iff, ← any_iff] at this
    rw [this]
    simp)
theorem nil_can : Sp.Can (([] : List S34).map toSp) := Sp.can_nil
end Go.Proofs.Ytjimijpkhmpilaa.P
