/-
  No cell of these rows narrows 'for every input' (looked for: loops, veiled, ifaces, maps, wideKeys, modest, calm, conditions, laid).
  DERIVED. THE GIVEN ROWS OF THIS SEAT. 9 by the template 'for every input the law returns true; each argument reads behind the call as it read before'; 0 by the template 'total and deterministic' (their statements: YtbmpecfhflkbeaaTotals.lean).
  GIVEN WITH THE SEED: the statements are not yours to turn. If you find one false, say at which input.
  Laid BY PROGRAM, IN A SANDBOX (cutbox-rows.mjs): the forced cells as the released guide's own fill.sh prints them over the translation f1c6542fecf852ee… (all of the seat's roots in one cut). By AI agents, Wed Nov 11 2026. No macro, syntax, notation, axiom, sorry.
-/
import Derived.Test.YtbmpecfhflkbeaaChecked
import GoSem.Claim
import GoSem.ClaimJoined
import GoSem.ClaimMapViews
import Derived.JoinedTies
import Derived.KernelRfl
namespace Go.Proofs.Ytbmpecfhflkbeaa
/- THE CELL 'sum', in the pinned program and in every row, IS THE sha256 OF THE DUMP (.gsa) THAT YtbmpecfhflkbeaaProg.lean LOADS. Nothing in Lean hashes anything: it is a label: what it is worth is what the hold of that sum in a sandbox is worth. -/
noncomputable def Try.pinned : Pinned := { name := "ytbmpecfhflkbeaa", sum := "f1c6542fecf852ee83ba2589aa855bfaf2df7de7b92ecc52891dbd1e31ed912e", checked := Try.checked }
namespace Rows
def none {H : Type} : Left H := { results := [], args := [] }

/-- 'folkmootlaw02.FlatSums': WHATEVER THE INPUT: true; the input reads as it did. -/
def flatSumsSpec : ChangeSpec := { name := "flatSums", fn := fun _ => fun
  | [d1, d2, d3] => { results := [.lit (.bool true)], args := [d1, d2, d3] }
  | _ => none }
def flatSumsRow : OpenClaim := { program := "ytbmpecfhflkbeaa", sum := "f1c6542fecf852ee83ba2589aa855bfaf2df7de7b92ecc52891dbd1e31ed912e", func := "folkmoot/folkmootlaw02.FlatSums", spec := "flatSums", unfollowed := true, recurses := true, apart := false }
def FlatSumsSaid : Prop := flatSumsRow.holds Try.pinned (OpenSpec.ofChange flatSumsSpec)

/-- ITS FALSE NEIGHBOUR: 'it returns false'. Refute it at one input. -/
def flatSumsWrong : ChangeSpec := { name := "flatSums", fn := fun _ => fun
  | [d1, d2, d3] => { results := [.lit (.bool false)], args := [d1, d2, d3] }
  | _ => none }
def FlatSumsWrongFalsely : Prop := flatSumsRow.holds Try.pinned (OpenSpec.ofChange flatSumsWrong)

/-- 'folkmootlaw02.FlatSumOn': WHATEVER THE INPUT: true; the input reads as it did. -/
def flatSumOnSpec : ChangeSpec := { name := "flatSumOn", fn := fun _ => fun
  | [d1, d2] => { results := [.lit (.bool true)], args := [d1, d2] }
  | _ => none }
def flatSumOnRow : OpenClaim := { program := "ytbmpecfhflkbeaa", sum := "f1c6542fecf852ee83ba2589aa855bfaf2df7de7b92ecc52891dbd1e31ed912e", func := "folkmoot/folkmootlaw02.FlatSumOn", spec := "flatSumOn", unfollowed := true, recurses := true, apart := false }
def FlatSumOnSaid : Prop := flatSumOnRow.holds Try.pinned (OpenSpec.ofChange flatSumOnSpec)

/-- ITS FALSE NEIGHBOUR: 'it returns false'. Refute it at one input. -/
def flatSumOnWrong : ChangeSpec := { name := "flatSumOn", fn := fun _ => fun
  | [d1, d2] => { results := [.lit (.bool false)], args := [d1, d2] }
  | _ => none }
def FlatSumOnWrongFalsely : Prop := flatSumOnRow.holds Try.pinned (OpenSpec.ofChange flatSumOnWrong)

/-- 'folkmootlaw02.FlatMany': WHATEVER THE INPUT: true; the input reads as it did. -/
def flatManySpec : ChangeSpec := { name := "flatMany", fn := fun _ => fun
  | [d1, d2, d3] => { results := [.lit (.bool true)], args := [d1, d2, d3] }
  | _ => none }
def flatManyRow : OpenClaim := { program := "ytbmpecfhflkbeaa", sum := "f1c6542fecf852ee83ba2589aa855bfaf2df7de7b92ecc52891dbd1e31ed912e", func := "folkmoot/folkmootlaw02.FlatMany", spec := "flatMany", unfollowed := true, recurses := true, apart := false }
def FlatManySaid : Prop := flatManyRow.holds Try.pinned (OpenSpec.ofChange flatManySpec)

/-- ITS FALSE NEIGHBOUR: 'it returns false'. Refute it at one input. -/
def flatManyWrong : ChangeSpec := { name := "flatMany", fn := fun _ => fun
  | [d1, d2, d3] => { results := [.lit (.bool false)], args := [d1, d2, d3] }
  | _ => none }
def FlatManyWrongFalsely : Prop := flatManyRow.holds Try.pinned (OpenSpec.ofChange flatManyWrong)

/-- 'folkmootlaw02.FlatLays': WHATEVER THE INPUT: true; the input reads as it did. -/
def flatLaysSpec : ChangeSpec := { name := "flatLays", fn := fun _ => fun
  | [d1, d2, d3] => { results := [.lit (.bool true)], args := [d1, d2, d3] }
  | _ => none }
def flatLaysRow : OpenClaim := { program := "ytbmpecfhflkbeaa", sum := "f1c6542fecf852ee83ba2589aa855bfaf2df7de7b92ecc52891dbd1e31ed912e", func := "folkmoot/folkmootlaw02.FlatLays", spec := "flatLays", unfollowed := true, recurses := true, apart := false }
def FlatLaysSaid : Prop := flatLaysRow.holds Try.pinned (OpenSpec.ofChange flatLaysSpec)

/-- ITS FALSE NEIGHBOUR: 'it returns false'. Refute it at one input. -/
def flatLaysWrong : ChangeSpec := { name := "flatLays", fn := fun _ => fun
  | [d1, d2, d3] => { results := [.lit (.bool false)], args := [d1, d2, d3] }
  | _ => none }
def FlatLaysWrongFalsely : Prop := flatLaysRow.holds Try.pinned (OpenSpec.ofChange flatLaysWrong)

/-- 'folkmootlaw02.FlatWidths': WHATEVER THE INPUT: true; the input reads as it did. -/
def flatWidthsSpec : ChangeSpec := { name := "flatWidths", fn := fun _ => fun
  | [d1, d2, d3] => { results := [.lit (.bool true)], args := [d1, d2, d3] }
  | _ => none }
def flatWidthsRow : OpenClaim := { program := "ytbmpecfhflkbeaa", sum := "f1c6542fecf852ee83ba2589aa855bfaf2df7de7b92ecc52891dbd1e31ed912e", func := "folkmoot/folkmootlaw02.FlatWidths", spec := "flatWidths", unfollowed := true, recurses := true, apart := false }
def FlatWidthsSaid : Prop := flatWidthsRow.holds Try.pinned (OpenSpec.ofChange flatWidthsSpec)

/-- ITS FALSE NEIGHBOUR: 'it returns false'. Refute it at one input. -/
def flatWidthsWrong : ChangeSpec := { name := "flatWidths", fn := fun _ => fun
  | [d1, d2, d3] => { results := [.lit (.bool false)], args := [d1, d2, d3] }
  | _ => none }
def FlatWidthsWrongFalsely : Prop := flatWidthsRow.holds Try.pinned (OpenSpec.ofChange flatWidthsWrong)

/-- 'folkmootlaw02.FlatReads': WHATEVER THE INPUT: true; the input reads as it did. -/
def flatReadsSpec : ChangeSpec := { name := "flatReads", fn := fun _ => fun
  | [d1, d2] => { results := [.lit (.bool true)], args := [d1, d2] }
  | _ => none }
def flatReadsRow : OpenClaim := { program := "ytbmpecfhflkbeaa", sum := "f1c6542fecf852ee83ba2589aa855bfaf2df7de7b92ecc52891dbd1e31ed912e", func := "folkmoot/folkmootlaw02.FlatReads", spec := "flatReads", unfollowed := true, recurses := true, apart := false }
def FlatReadsSaid : Prop := flatReadsRow.holds Try.pinned (OpenSpec.ofChange flatReadsSpec)

/-- ITS FALSE NEIGHBOUR: 'it returns false'. Refute it at one input. -/
def flatReadsWrong : ChangeSpec := { name := "flatReads", fn := fun _ => fun
  | [d1, d2] => { results := [.lit (.bool false)], args := [d1, d2] }
  | _ => none }
def FlatReadsWrongFalsely : Prop := flatReadsRow.holds Try.pinned (OpenSpec.ofChange flatReadsWrong)

/-- 'folkmootlaw02.FlatBlind': WHATEVER THE INPUT: true; the input reads as it did. -/
def flatBlindSpec : ChangeSpec := { name := "flatBlind", fn := fun _ => fun
  | [d1, d2] => { results := [.lit (.bool true)], args := [d1, d2] }
  | _ => none }
def flatBlindRow : OpenClaim := { program := "ytbmpecfhflkbeaa", sum := "f1c6542fecf852ee83ba2589aa855bfaf2df7de7b92ecc52891dbd1e31ed912e", func := "folkmoot/folkmootlaw02.FlatBlind", spec := "flatBlind", unfollowed := true, recurses := true, apart := false }
def FlatBlindSaid : Prop := flatBlindRow.holds Try.pinned (OpenSpec.ofChange flatBlindSpec)

/-- ITS FALSE NEIGHBOUR: 'it returns false'. Refute it at one input. -/
def flatBlindWrong : ChangeSpec := { name := "flatBlind", fn := fun _ => fun
  | [d1, d2] => { results := [.lit (.bool false)], args := [d1, d2] }
  | _ => none }
def FlatBlindWrongFalsely : Prop := flatBlindRow.holds Try.pinned (OpenSpec.ofChange flatBlindWrong)

/-- 'folkmootlaw02.FlatBack': WHATEVER THE INPUT: true; the input reads as it did. -/
def flatBackSpec : ChangeSpec := { name := "flatBack", fn := fun _ => fun
  | [d1, d2] => { results := [.lit (.bool true)], args := [d1, d2] }
  | _ => none }
def flatBackRow : OpenClaim := { program := "ytbmpecfhflkbeaa", sum := "f1c6542fecf852ee83ba2589aa855bfaf2df7de7b92ecc52891dbd1e31ed912e", func := "folkmoot/folkmootlaw02.FlatBack", spec := "flatBack", unfollowed := true, recurses := true, apart := false }
def FlatBackSaid : Prop := flatBackRow.holds Try.pinned (OpenSpec.ofChange flatBackSpec)

/-- ITS FALSE NEIGHBOUR: 'it returns false'. Refute it at one input. -/
def flatBackWrong : ChangeSpec := { name := "flatBack", fn := fun _ => fun
  | [d1, d2] => { results := [.lit (.bool false)], args := [d1, d2] }
  | _ => none }
def FlatBackWrongFalsely : Prop := flatBackRow.holds Try.pinned (OpenSpec.ofChange flatBackWrong)

/-- 'folkmootlaw02.FlatNil': WHATEVER THE INPUT: true; the input reads as it did. -/
def flatNilSpec : ChangeSpec := { name := "flatNil", fn := fun _ => fun
  | [d1, d2] => { results := [.lit (.bool true)], args := [d1, d2] }
  | _ => none }
def flatNilRow : OpenClaim := { program := "ytbmpecfhflkbeaa", sum := "f1c6542fecf852ee83ba2589aa855bfaf2df7de7b92ecc52891dbd1e31ed912e", func := "folkmoot/folkmootlaw02.FlatNil", spec := "flatNil", unfollowed := true, recurses := true, apart := false }
def FlatNilSaid : Prop := flatNilRow.holds Try.pinned (OpenSpec.ofChange flatNilSpec)

/-- ITS FALSE NEIGHBOUR: 'it returns false'. Refute it at one input. -/
def flatNilWrong : ChangeSpec := { name := "flatNil", fn := fun _ => fun
  | [d1, d2] => { results := [.lit (.bool false)], args := [d1, d2] }
  | _ => none }
def FlatNilWrongFalsely : Prop := flatNilRow.holds Try.pinned (OpenSpec.ofChange flatNilWrong)

/- THE SECOND FORM. 'bulk': how many values and letters a reading holds, each counted each time it is reached (what is shared counts as often as it is met; a slice's spare places count too). A statement '..UptoSaid' is the law's where the arguments, and the package variables that the reading takes, are together of bulk at most 1048576: NARROWER than '..Said'. Prove '..Said' where nothing that the law and all that it calls make is longer than what came in: it says more and counts as full. Else prove '..UptoSaid'. A law counts once. -/
mutual
def uptoBulk {H : Type} : DataW H → Nat
  | .lit (.string bytes) => bytes.length + 1
  | .lit _ => 1
  | .nil => 1
  | .ptr d => uptoBulk d + 1
  | .slice elems spare => uptoBulkAll elems + uptoBulkAll spare + 1
  | .agg parts => uptoBulkAll parts + 1
  | .iface _ d => uptoBulk d + 1
  | .map entries => uptoBulkEntries entries + 1
  | .held _ => 1
def uptoBulkAll {H : Type} : List (DataW H) → Nat
  | [] => 0
  | d :: r => uptoBulk d + uptoBulkAll r
def uptoBulkEntries {H : Type} : List (Lit × DataW H) → Nat
  | [] => 0
  | x :: r => uptoBulkEntry x + uptoBulkEntries r
def uptoBulkEntry {H : Type} : Lit × DataW H → Nat
  | (.string bytes, d) => bytes.length + uptoBulk d + 1
  | (_, d) => uptoBulk d + 1
 end
def uptoSmall : (H : Type) → List (DataW H) → Bool := fun _ ds => decide (uptoBulkAll ds ≤ 1048576)
def OpenSpec.upto (s : _root_.Go.ChangeSpec) : _root_.Go.OpenSpec := { _root_.Go.OpenSpec.ofChange s with cond := some uptoSmall }

/-- 'folkmootlaw02.FlatSums', WHERE WHAT IT READS IS OF BULK AT MOST 1048576: true; the input reads as it did. -/
def flatSumsUptoRow : OpenClaim := { program := "ytbmpecfhflkbeaa", sum := "f1c6542fecf852ee83ba2589aa855bfaf2df7de7b92ecc52891dbd1e31ed912e", func := "folkmoot/folkmootlaw02.FlatSums", spec := "flatSums", unfollowed := true, recurses := true, apart := false, narrowed := true }
def FlatSumsUptoSaid : Prop := flatSumsUptoRow.holds Try.pinned (OpenSpec.upto flatSumsSpec)

/-- 'folkmootlaw02.FlatSumOn', WHERE WHAT IT READS IS OF BULK AT MOST 1048576: true; the input reads as it did. -/
def flatSumOnUptoRow : OpenClaim := { program := "ytbmpecfhflkbeaa", sum := "f1c6542fecf852ee83ba2589aa855bfaf2df7de7b92ecc52891dbd1e31ed912e", func := "folkmoot/folkmootlaw02.FlatSumOn", spec := "flatSumOn", unfollowed := true, recurses := true, apart := false, narrowed := true }
def FlatSumOnUptoSaid : Prop := flatSumOnUptoRow.holds Try.pinned (OpenSpec.upto flatSumOnSpec)

/-- 'folkmootlaw02.FlatMany', WHERE WHAT IT READS IS OF BULK AT MOST 1048576: true; the input reads as it did. -/
def flatManyUptoRow : OpenClaim := { program := "ytbmpecfhflkbeaa", sum := "f1c6542fecf852ee83ba2589aa855bfaf2df7de7b92ecc52891dbd1e31ed912e", func := "folkmoot/folkmootlaw02.FlatMany", spec := "flatMany", unfollowed := true, recurses := true, apart := false, narrowed := true }
def FlatManyUptoSaid : Prop := flatManyUptoRow.holds Try.pinned (OpenSpec.upto flatManySpec)

/-- 'folkmootlaw02.FlatLays', WHERE WHAT IT READS IS OF BULK AT MOST 1048576: true; the input reads as it did. -/
def flatLaysUptoRow : OpenClaim := { program := "ytbmpecfhflkbeaa", sum := "f1c6542fecf852ee83ba2589aa855bfaf2df7de7b92ecc52891dbd1e31ed912e", func := "folkmoot/folkmootlaw02.FlatLays", spec := "flatLays", unfollowed := true, recurses := true, apart := false, narrowed := true }
def FlatLaysUptoSaid : Prop := flatLaysUptoRow.holds Try.pinned (OpenSpec.upto flatLaysSpec)

/-- 'folkmootlaw02.FlatWidths', WHERE WHAT IT READS IS OF BULK AT MOST 1048576: true; the input reads as it did. -/
def flatWidthsUptoRow : OpenClaim := { program := "ytbmpecfhflkbeaa", sum := "f1c6542fecf852ee83ba2589aa855bfaf2df7de7b92ecc52891dbd1e31ed912e", func := "folkmoot/folkmootlaw02.FlatWidths", spec := "flatWidths", unfollowed := true, recurses := true, apart := false, narrowed := true }
def FlatWidthsUptoSaid : Prop := flatWidthsUptoRow.holds Try.pinned (OpenSpec.upto flatWidthsSpec)

/-- 'folkmootlaw02.FlatReads', WHERE WHAT IT READS IS OF BULK AT MOST 1048576: true; the input reads as it did. -/
def flatReadsUptoRow : OpenClaim := { program := "ytbmpecfhflkbeaa", sum := "f1c6542fecf852ee83ba2589aa855bfaf2df7de7b92ecc52891dbd1e31ed912e", func := "folkmoot/folkmootlaw02.FlatReads", spec := "flatReads", unfollowed := true, recurses := true, apart := false, narrowed := true }
def FlatReadsUptoSaid : Prop := flatReadsUptoRow.holds Try.pinned (OpenSpec.upto flatReadsSpec)

/-- 'folkmootlaw02.FlatBlind', WHERE WHAT IT READS IS OF BULK AT MOST 1048576: true; the input reads as it did. -/
def flatBlindUptoRow : OpenClaim := { program := "ytbmpecfhflkbeaa", sum := "f1c6542fecf852ee83ba2589aa855bfaf2df7de7b92ecc52891dbd1e31ed912e", func := "folkmoot/folkmootlaw02.FlatBlind", spec := "flatBlind", unfollowed := true, recurses := true, apart := false, narrowed := true }
def FlatBlindUptoSaid : Prop := flatBlindUptoRow.holds Try.pinned (OpenSpec.upto flatBlindSpec)

/-- 'folkmootlaw02.FlatBack', WHERE WHAT IT READS IS OF BULK AT MOST 1048576: true; the input reads as it did. -/
def flatBackUptoRow : OpenClaim := { program := "ytbmpecfhflkbeaa", sum := "f1c6542fecf852ee83ba2589aa855bfaf2df7de7b92ecc52891dbd1e31ed912e", func := "folkmoot/folkmootlaw02.FlatBack", spec := "flatBack", unfollowed := true, recurses := true, apart := false, narrowed := true }
def FlatBackUptoSaid : Prop := flatBackUptoRow.holds Try.pinned (OpenSpec.upto flatBackSpec)

/-- 'folkmootlaw02.FlatNil', WHERE WHAT IT READS IS OF BULK AT MOST 1048576: true; the input reads as it did. -/
def flatNilUptoRow : OpenClaim := { program := "ytbmpecfhflkbeaa", sum := "f1c6542fecf852ee83ba2589aa855bfaf2df7de7b92ecc52891dbd1e31ed912e", func := "folkmoot/folkmootlaw02.FlatNil", spec := "flatNil", unfollowed := true, recurses := true, apart := false, narrowed := true }
def FlatNilUptoSaid : Prop := flatNilUptoRow.holds Try.pinned (OpenSpec.upto flatNilSpec)

end Rows
end Go.Proofs.Ytbmpecfhflkbeaa
