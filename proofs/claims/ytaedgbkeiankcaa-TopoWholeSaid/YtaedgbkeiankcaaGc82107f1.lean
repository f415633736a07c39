/- Texts of the proofs of TopoChecks, TopoKeeps, TopoOnce, TopoTells, TopoTouches, TopoWhole, merged (Ev). -/
import Derived.Test.YtaedgbkeiankcaaWWords
/- Words for the plain laws: what a printed function comes to, once it has rounds enough. -/
namespace Go.Proofs.Ytaedgbkeiankcaa.P
open Go.RowKit Go.Proofs.YtaedgbkeiankcaaW.PrintWords
set_option linter.unusedVariables false

theorem Ev.val {α : Type} (r : α) : Ev (fun _ => some r) r := Ev.now r
theorem Ev.eq {α : Type} {g : Nat → Option α} {r s : α} (h : Ev g r) (e : r = s) : Ev g s := e ▸ h
theorem Ev.bindE {α β : Type} {g : Nat → Option α} {f : Nat → α → Option β} {r : β} (h : ∃ a, Ev g a ∧ Ev (fun n => f n a) r) : Ev (fun n => (g n).bind (f n)) r := by
  obtain ⟨a, h1, h2⟩ := h
  exact Ev.bind h1 h2
theorem Ev.ite {α : Type} {g f : Nat → Option α} {c : Prop} [Decidable c] {r : α} (h1 : c → Ev g r) (h2 : ¬ c → Ev f r) : Ev (fun k => if c then g k else f k) r := by
  by_cases h : c
  · simp only [if_pos h]; exact h1 h
  · simp only [if_neg h]; exact h2 h
theorem wrap_in {x : Int} (h1 : -9223372036854775808 ≤ x) (h2 : x ≤ 9223372036854775807) : wrap64 x = x := by
  unfold wrap64
  omega
end Go.Proofs.Ytaedgbkeiankcaa.P
