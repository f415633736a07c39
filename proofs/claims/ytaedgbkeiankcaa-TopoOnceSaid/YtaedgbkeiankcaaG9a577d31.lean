/- Texts of the proofs of TopoOnce, TopoTells, merged (Sh). -/
import Derived.Test.YtaedgbkeiankcaaWWords
import Derived.Test.YtaedgbkeiankcaaWLast
import Derived.Test.YtaedgbkeiankcaaWMore
namespace Go.Proofs.Ytaedgbkeiankcaa.P
open Go.RowKit Go.Proofs.YtaedgbkeiankcaaW.PrintWords Go.Proofs.YtaedgbkeiankcaaW.PrintLast Go.Proofs.YtaedgbkeiankcaaW.PrintMore
set_option linter.unusedVariables false
section
variable {α β : Type} {d : Kd α} {d' : Kd β} {e e' : Nat} {w w0 w1 w2 W : World} {base base' : Nat} {ok ok' : Nat → Prop} {v u : Value} {xs : List α} {ys : List β} {A : Option Addr} {n : Nat}
/-- a row of the call's own, in a world that has grown since -/
theorem uR (h : Aside0 (d.R e w0 base ok v xs)) (g : d.R e w0 base ok v xs → d.R e w base ok v xs := by intro h; (with_reducible repeat (first | apply Kd.R_alloc | apply Kd.R_drewN | apply Kd.R_drew)); exact h) : d.R e w base ok v xs := g h.out
/-- an elder row, behind a call that makes a new one -/
theorem eR (h : Aside0 (d.R e w0 base ok u xs)) (ho : d'.R e' w1 W.heap.size ok' v ys) (hb : Below W.heap.size W w1) (g : d.R e w0 base ok u xs → d.R e W base ok u xs := by intro h; (with_reducible repeat (first | apply Kd.R_alloc | apply Kd.R_drewN | apply Kd.R_drew)); exact h) : Aside0 (d.R e w1 base (fun k => ok k ∧ some k ≠ v.ownBlock) u xs) := ⟨Kd.R_elder' (g h.out) (Kd.R_base ho) hb⟩
/-- the same, behind a call that makes none -/
theorem bR (h : Aside0 (d.R e w0 base ok u xs)) (hb : Below W.heap.size W w1) (g : d.R e w0 base ok u xs → d.R e W base ok u xs := by intro h; (with_reducible repeat (first | apply Kd.R_alloc | apply Kd.R_drewN | apply Kd.R_drew)); exact h) : Aside0 (d.R e w1 base ok u xs) := ⟨Kd.R_below (g h.out) hb⟩
/-- a new row, that is not an elder one -/
theorem nR (h : d.R e w1 W.heap.size ok v xs) (k : Aside0 (d'.R e' w0 base ok' u ys)) (g : d'.R e' w0 base ok' u ys → d'.R e' W base ok' u ys := by intro h; (with_reducible repeat (first | apply Kd.R_alloc | apply Kd.R_drewN | apply Kd.R_drew)); exact h) : d.R e w1 W.heap.size (fun k => ok k ∧ some k ≠ u.ownBlock) v xs := Kd.R_new' h (Kd.R_lt (g k.out))
/-- the call's world, grown -/
theorem uB (h : Aside0 (Below n w W)) (g : Below n w W → Below n w w1 := by intro h; repeat (first | (with_reducible first | exact h | apply below_alloc | apply pw_below_drewN | apply below_drew1) | exact h)) : Below n w w1 := g h.out
theorem sB (h : Aside0 (Below w.heap.size w W)) (hb : Below w1.heap.size w1 w2) (g : Below w.heap.size w W → Below w.heap.size w w1 := by intro h; repeat (first | (with_reducible first | exact h | apply below_alloc | apply pw_below_drewN | apply below_drew1) | exact h)) : Aside0 (Below w.heap.size w w2) := ⟨below_step (g h.out) hb⟩
/-- the new row, told from where the whole began -/
theorem lR (h : d.R e w1 W.heap.size ok v xs) (k : Aside0 (Below w.heap.size w w0)) (g : Below w.heap.size w w0 → Below w.heap.size w W := by intro h; repeat (first | (with_reducible first | exact h | apply below_alloc | apply pw_below_drewN | apply below_drew1) | exact h)) : Aside0 (d.R e w1 w.heap.size ok v xs) := ⟨Kd.R_lower h (below_size (g k.out))⟩
/-- a row that is read, in a world that has grown since -/
theorem uC (h : d.C w A n xs) (g : d.C w A n xs → d.C w1 A n xs := by intro h; repeat (first | exact h | (with_reducible refine Kd.C_alloc ?_ _) | (with_reducible refine Kd.C_drewN ?_ _) | (with_reducible refine Kd.C_drew ?_))) : d.C w1 A n xs := g h
end
end Go.Proofs.Ytaedgbkeiankcaa.P
