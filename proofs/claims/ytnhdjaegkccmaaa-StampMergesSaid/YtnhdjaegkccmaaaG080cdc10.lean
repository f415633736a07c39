/- Texts of the proofs of StampMerges, merged (Sh). -/
import Derived.Test.YtnhdjaegkccmaaaWWords
import Derived.Test.YtnhdjaegkccmaaaWLast
import Derived.Test.YtnhdjaegkccmaaaWMore
namespace Go.Proofs.Ytnhdjaegkccmaaa.P
open Go.RowKit Go.Proofs.YtnhdjaegkccmaaaW.PrintWords Go.Proofs.YtnhdjaegkccmaaaW.PrintLast Go.Proofs.YtnhdjaegkccmaaaW.PrintMore
set_option linter.unusedVariables false
section
variable {α β : Type} {d : Kd α} {d' : Kd β} {e e' : Nat} {w w0 w1 w2 W : World} {base base' : Nat} {ok ok' : Nat → Prop} {v u : Value} {xs : List α} {ys : List β} {A : Option Addr} {n : Nat}
/-- the call's world, grown -/
theorem uB (h : Aside0 (Below n w W)) (g : Below n w W → Below n w w1 := by intro h; repeat (first | (with_reducible first | exact h | apply below_alloc | apply pw_below_drewN | apply below_drew1) | exact h)) : Below n w w1 := g h.out
theorem sB (h : Aside0 (Below w.heap.size w W)) (hb : Below w1.heap.size w1 w2) (g : Below w.heap.size w W → Below w.heap.size w w1 := by intro h; repeat (first | (with_reducible first | exact h | apply below_alloc | apply pw_below_drewN | apply below_drew1) | exact h)) : Aside0 (Below w.heap.size w w2) := ⟨below_step (g h.out) hb⟩
/-- a row that is read, in a world that has grown since -/
theorem uC (h : d.C w A n xs) (g : d.C w A n xs → d.C w1 A n xs := by intro h; repeat (first | exact h | (with_reducible refine Kd.C_alloc ?_ _) | (with_reducible refine Kd.C_drewN ?_ _) | (with_reducible refine Kd.C_drew ?_))) : d.C w1 A n xs := g h
end
end Go.Proofs.Ytnhdjaegkccmaaa.P
