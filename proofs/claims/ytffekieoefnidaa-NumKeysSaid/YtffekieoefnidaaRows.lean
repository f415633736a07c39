/-
  No cell of these rows narrows 'for every input' (looked for: loops, veiled, ifaces, maps, wideKeys, modest, calm, conditions, laid).
  DERIVED. THE GIVEN ROWS OF THIS SEAT. 7 by the template 'for every input the law returns true; each argument reads behind the call as it read before'; 0 by the template 'total and deterministic' (their statements: YtffekieoefnidaaTotals.lean).
  GIVEN WITH THE SEED: the statements are not yours to turn. If you find one false, say at which input.
  Laid BY PROGRAM, IN A SANDBOX (cutbox-rows.mjs): the forced cells as the released guide's own fill.sh prints them over the translation 201e33b0f7789b22… (all of the seat's roots in one cut). By AI agents, Wed Nov 11 2026. No macro, syntax, notation, axiom, sorry.
-/
import Derived.Test.YtffekieoefnidaaChecked
import GoSem.Claim
import GoSem.ClaimJoined
import GoSem.ClaimMapViews
import Derived.JoinedTies
import Derived.KernelRfl
namespace Go.Proofs.Ytffekieoefnidaa
/- THE CELL 'sum', in the pinned program and in every row, IS THE sha256 OF THE DUMP (.gsa) THAT YtffekieoefnidaaProg.lean LOADS. Nothing in Lean hashes anything: it is a label: what it is worth is what the hold of that sum in a sandbox is worth. -/
noncomputable def Try.pinned : Pinned := { name := "ytffekieoefnidaa", sum := "201e33b0f7789b22e6790fa100340d82cc46a35debe99347323795dfece3c79a", checked := Try.checked }
namespace Rows
def none {H : Type} : Left H := { results := [], args := [] }

/-- 'folkmootlaw07.NumTells': WHATEVER THE INPUT: true; the input reads as it did. -/
def numTellsSpec : ChangeSpec := { name := "numTells", fn := fun _ => fun
  | [d1, d2, d3] => { results := [.lit (.bool true)], args := [d1, d2, d3] }
  | _ => none }
def numTellsRow : OpenClaim := { program := "ytffekieoefnidaa", sum := "201e33b0f7789b22e6790fa100340d82cc46a35debe99347323795dfece3c79a", func := "folkmoot/folkmootlaw07.NumTells", spec := "numTells", inPlace := ["math.Float64frombits", "math.Float64bits"], apart := false }
def NumTellsSaid : Prop := numTellsRow.holds Try.pinned (OpenSpec.ofChange numTellsSpec)

/-- ITS FALSE NEIGHBOUR: 'it returns false'. Refute it at one input. -/
def numTellsWrong : ChangeSpec := { name := "numTells", fn := fun _ => fun
  | [d1, d2, d3] => { results := [.lit (.bool false)], args := [d1, d2, d3] }
  | _ => none }
def NumTellsWrongFalsely : Prop := numTellsRow.holds Try.pinned (OpenSpec.ofChange numTellsWrong)

/-- 'folkmootlaw07.NumOrder': WHATEVER THE INPUT: true; the input reads as it did. -/
def numOrderSpec : ChangeSpec := { name := "numOrder", fn := fun _ => fun
  | [d1, d2, d3] => { results := [.lit (.bool true)], args := [d1, d2, d3] }
  | _ => none }
def numOrderRow : OpenClaim := { program := "ytffekieoefnidaa", sum := "201e33b0f7789b22e6790fa100340d82cc46a35debe99347323795dfece3c79a", func := "folkmoot/folkmootlaw07.NumOrder", spec := "numOrder", inPlace := ["math.Float64frombits", "math.Float64bits"], apart := false }
def NumOrderSaid : Prop := numOrderRow.holds Try.pinned (OpenSpec.ofChange numOrderSpec)

/-- ITS FALSE NEIGHBOUR: 'it returns false'. Refute it at one input. -/
def numOrderWrong : ChangeSpec := { name := "numOrder", fn := fun _ => fun
  | [d1, d2, d3] => { results := [.lit (.bool false)], args := [d1, d2, d3] }
  | _ => none }
def NumOrderWrongFalsely : Prop := numOrderRow.holds Try.pinned (OpenSpec.ofChange numOrderWrong)

/-- 'folkmootlaw07.NumCovers': WHATEVER THE INPUT: true; the input reads as it did. -/
def numCoversSpec : ChangeSpec := { name := "numCovers", fn := fun _ => fun
  | [d1, d2] => { results := [.lit (.bool true)], args := [d1, d2] }
  | _ => none }
def numCoversRow : OpenClaim := { program := "ytffekieoefnidaa", sum := "201e33b0f7789b22e6790fa100340d82cc46a35debe99347323795dfece3c79a", func := "folkmoot/folkmootlaw07.NumCovers", spec := "numCovers", inPlace := ["math.Float64frombits", "math.Float64bits"], apart := false }
def NumCoversSaid : Prop := numCoversRow.holds Try.pinned (OpenSpec.ofChange numCoversSpec)

/-- ITS FALSE NEIGHBOUR: 'it returns false'. Refute it at one input. -/
def numCoversWrong : ChangeSpec := { name := "numCovers", fn := fun _ => fun
  | [d1, d2] => { results := [.lit (.bool false)], args := [d1, d2] }
  | _ => none }
def NumCoversWrongFalsely : Prop := numCoversRow.holds Try.pinned (OpenSpec.ofChange numCoversWrong)

/-- 'folkmootlaw07.NumWhole': WHATEVER THE INPUT: true; the input reads as it did. -/
def numWholeSpec : ChangeSpec := { name := "numWhole", fn := fun _ => fun
  | [d1, d2] => { results := [.lit (.bool true)], args := [d1, d2] }
  | _ => none }
def numWholeRow : OpenClaim := { program := "ytffekieoefnidaa", sum := "201e33b0f7789b22e6790fa100340d82cc46a35debe99347323795dfece3c79a", func := "folkmoot/folkmootlaw07.NumWhole", spec := "numWhole", inPlace := ["math.Float64bits", "math.Float64frombits"], apart := false }
def NumWholeSaid : Prop := numWholeRow.holds Try.pinned (OpenSpec.ofChange numWholeSpec)

/-- ITS FALSE NEIGHBOUR: 'it returns false'. Refute it at one input. -/
def numWholeWrong : ChangeSpec := { name := "numWhole", fn := fun _ => fun
  | [d1, d2] => { results := [.lit (.bool false)], args := [d1, d2] }
  | _ => none }
def NumWholeWrongFalsely : Prop := numWholeRow.holds Try.pinned (OpenSpec.ofChange numWholeWrong)

/-- 'folkmootlaw07.NumEdges': WHATEVER THE INPUT: true; the input reads as it did. -/
def numEdgesSpec : ChangeSpec := { name := "numEdges", fn := fun _ => fun
  | [d] => { results := [.lit (.bool true)], args := [d] }
  | _ => none }
def numEdgesRow : OpenClaim := { program := "ytffekieoefnidaa", sum := "201e33b0f7789b22e6790fa100340d82cc46a35debe99347323795dfece3c79a", func := "folkmoot/folkmootlaw07.NumEdges", spec := "numEdges", inPlace := ["math.Float64frombits", "math.Float64bits"], apart := false }
def NumEdgesSaid : Prop := numEdgesRow.holds Try.pinned (OpenSpec.ofChange numEdgesSpec)

/-- ITS FALSE NEIGHBOUR: 'it returns false'. Refute it at one input. -/
def numEdgesWrong : ChangeSpec := { name := "numEdges", fn := fun _ => fun
  | [d] => { results := [.lit (.bool false)], args := [d] }
  | _ => none }
def NumEdgesWrongFalsely : Prop := numEdgesRow.holds Try.pinned (OpenSpec.ofChange numEdgesWrong)

/-- 'folkmootlaw07.NumTurns': WHATEVER THE INPUT: true; the input reads as it did. -/
def numTurnsSpec : ChangeSpec := { name := "numTurns", fn := fun _ => fun
  | [d1, d2] => { results := [.lit (.bool true)], args := [d1, d2] }
  | _ => none }
def numTurnsRow : OpenClaim := { program := "ytffekieoefnidaa", sum := "201e33b0f7789b22e6790fa100340d82cc46a35debe99347323795dfece3c79a", func := "folkmoot/folkmootlaw07.NumTurns", spec := "numTurns", inPlace := ["math.Float64frombits", "math.Float64bits"], apart := false }
def NumTurnsSaid : Prop := numTurnsRow.holds Try.pinned (OpenSpec.ofChange numTurnsSpec)

/-- ITS FALSE NEIGHBOUR: 'it returns false'. Refute it at one input. -/
def numTurnsWrong : ChangeSpec := { name := "numTurns", fn := fun _ => fun
  | [d1, d2] => { results := [.lit (.bool false)], args := [d1, d2] }
  | _ => none }
def NumTurnsWrongFalsely : Prop := numTurnsRow.holds Try.pinned (OpenSpec.ofChange numTurnsWrong)

/-- 'folkmootlaw07.NumKeys': WHATEVER THE INPUT: true; the input reads as it did. -/
def numKeysSpec : ChangeSpec := { name := "numKeys", fn := fun _ => fun
  | [d1, d2] => { results := [.lit (.bool true)], args := [d1, d2] }
  | _ => none }
def numKeysRow : OpenClaim := { program := "ytffekieoefnidaa", sum := "201e33b0f7789b22e6790fa100340d82cc46a35debe99347323795dfece3c79a", func := "folkmoot/folkmootlaw07.NumKeys", spec := "numKeys", inPlace := ["math.Float64bits", "math.Float64frombits"], apart := false }
def NumKeysSaid : Prop := numKeysRow.holds Try.pinned (OpenSpec.ofChange numKeysSpec)

/-- ITS FALSE NEIGHBOUR: 'it returns false'. Refute it at one input. -/
def numKeysWrong : ChangeSpec := { name := "numKeys", fn := fun _ => fun
  | [d1, d2] => { results := [.lit (.bool false)], args := [d1, d2] }
  | _ => none }
def NumKeysWrongFalsely : Prop := numKeysRow.holds Try.pinned (OpenSpec.ofChange numKeysWrong)

/- THE SECOND FORM. 'bulk': how many values and letters a reading holds, each counted each time it is reached (what is shared counts as often as it is met; a slice's spare places count too). A statement '..UptoSaid' is the law's where the arguments, and the package variables that the reading takes, are together of bulk at most 1048576: NARROWER than '..Said'. Prove '..Said' where nothing that the law and all that it calls make is longer than what came in: it says more and counts as full. Else prove '..UptoSaid'. A law counts once. -/
mutual
def uptoBulk {H : Type} : DataW H → Nat
  | .lit (.string bytes) => bytes.length + 1
  | .lit _ => 1
  | .nil => 1
  | .ptr d => uptoBulk d + 1
  | .slice elems spare => uptoBulkAll elems + uptoBulkAll spare + 1
  | .agg parts => uptoBulkAll parts + 1
  | .iface _ d => uptoBulk d + 1
  | .map entries => uptoBulkEntries entries + 1
  | .held _ => 1
def uptoBulkAll {H : Type} : List (DataW H) → Nat
  | [] => 0
  | d :: r => uptoBulk d + uptoBulkAll r
def uptoBulkEntries {H : Type} : List (Lit × DataW H) → Nat
  | [] => 0
  | x :: r => uptoBulkEntry x + uptoBulkEntries r
def uptoBulkEntry {H : Type} : Lit × DataW H → Nat
  | (.string bytes, d) => bytes.length + uptoBulk d + 1
  | (_, d) => uptoBulk d + 1
 end
def uptoSmall : (H : Type) → List (DataW H) → Bool := fun _ ds => decide (uptoBulkAll ds ≤ 1048576)
def OpenSpec.upto (s : _root_.Go.ChangeSpec) : _root_.Go.OpenSpec := { _root_.Go.OpenSpec.ofChange s with cond := some uptoSmall }

/-- 'folkmootlaw07.NumTells', WHERE WHAT IT READS IS OF BULK AT MOST 1048576: true; the input reads as it did. -/
def numTellsUptoRow : OpenClaim := { program := "ytffekieoefnidaa", sum := "201e33b0f7789b22e6790fa100340d82cc46a35debe99347323795dfece3c79a", func := "folkmoot/folkmootlaw07.NumTells", spec := "numTells", inPlace := ["math.Float64frombits", "math.Float64bits"], apart := false, narrowed := true }
def NumTellsUptoSaid : Prop := numTellsUptoRow.holds Try.pinned (OpenSpec.upto numTellsSpec)

/-- 'folkmootlaw07.NumOrder', WHERE WHAT IT READS IS OF BULK AT MOST 1048576: true; the input reads as it did. -/
def numOrderUptoRow : OpenClaim := { program := "ytffekieoefnidaa", sum := "201e33b0f7789b22e6790fa100340d82cc46a35debe99347323795dfece3c79a", func := "folkmoot/folkmootlaw07.NumOrder", spec := "numOrder", inPlace := ["math.Float64frombits", "math.Float64bits"], apart := false, narrowed := true }
def NumOrderUptoSaid : Prop := numOrderUptoRow.holds Try.pinned (OpenSpec.upto numOrderSpec)

/-- 'folkmootlaw07.NumCovers', WHERE WHAT IT READS IS OF BULK AT MOST 1048576: true; the input reads as it did. -/
def numCoversUptoRow : OpenClaim := { program := "ytffekieoefnidaa", sum := "201e33b0f7789b22e6790fa100340d82cc46a35debe99347323795dfece3c79a", func := "folkmoot/folkmootlaw07.NumCovers", spec := "numCovers", inPlace := ["math.Float64frombits", "math.Float64bits"], apart := false, narrowed := true }
def NumCoversUptoSaid : Prop := numCoversUptoRow.holds Try.pinned (OpenSpec.upto numCoversSpec)

/-- 'folkmootlaw07.NumWhole', WHERE WHAT IT READS IS OF BULK AT MOST 1048576: true; the input reads as it did. -/
def numWholeUptoRow : OpenClaim := { program := "ytffekieoefnidaa", sum := "201e33b0f7789b22e6790fa100340d82cc46a35debe99347323795dfece3c79a", func := "folkmoot/folkmootlaw07.NumWhole", spec := "numWhole", inPlace := ["math.Float64bits", "math.Float64frombits"], apart := false, narrowed := true }
def NumWholeUptoSaid : Prop := numWholeUptoRow.holds Try.pinned (OpenSpec.upto numWholeSpec)

/-- 'folkmootlaw07.NumEdges', WHERE WHAT IT READS IS OF BULK AT MOST 1048576: true; the input reads as it did. -/
def numEdgesUptoRow : OpenClaim := { program := "ytffekieoefnidaa", sum := "201e33b0f7789b22e6790fa100340d82cc46a35debe99347323795dfece3c79a", func := "folkmoot/folkmootlaw07.NumEdges", spec := "numEdges", inPlace := ["math.Float64frombits", "math.Float64bits"], apart := false, narrowed := true }
def NumEdgesUptoSaid : Prop := numEdgesUptoRow.holds Try.pinned (OpenSpec.upto numEdgesSpec)

/-- 'folkmootlaw07.NumTurns', WHERE WHAT IT READS IS OF BULK AT MOST 1048576: true; the input reads as it did. -/
def numTurnsUptoRow : OpenClaim := { program := "ytffekieoefnidaa", sum := "201e33b0f7789b22e6790fa100340d82cc46a35debe99347323795dfece3c79a", func := "folkmoot/folkmootlaw07.NumTurns", spec := "numTurns", inPlace := ["math.Float64frombits", "math.Float64bits"], apart := false, narrowed := true }
def NumTurnsUptoSaid : Prop := numTurnsUptoRow.holds Try.pinned (OpenSpec.upto numTurnsSpec)

/-- 'folkmootlaw07.NumKeys', WHERE WHAT IT READS IS OF BULK AT MOST 1048576: true; the input reads as it did. -/
def numKeysUptoRow : OpenClaim := { program := "ytffekieoefnidaa", sum := "201e33b0f7789b22e6790fa100340d82cc46a35debe99347323795dfece3c79a", func := "folkmoot/folkmootlaw07.NumKeys", spec := "numKeys", inPlace := ["math.Float64bits", "math.Float64frombits"], apart := false, narrowed := true }
def NumKeysUptoSaid : Prop := numKeysUptoRow.holds Try.pinned (OpenSpec.upto numKeysSpec)

end Rows
end Go.Proofs.Ytffekieoefnidaa
