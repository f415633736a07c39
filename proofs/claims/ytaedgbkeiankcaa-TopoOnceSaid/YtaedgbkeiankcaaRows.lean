/-
  No cell of these rows narrows 'for every input' (looked for: loops, veiled, ifaces, maps, wideKeys, modest, calm, conditions, laid).
  DERIVED. THE GIVEN ROWS OF THIS SEAT. 6 by the template 'for every input the law returns true; each argument reads behind the call as it read before'; 0 by the template 'total and deterministic' (their statements: YtaedgbkeiankcaaTotals.lean).
  GIVEN WITH THE SEED: the statements are not yours to turn. If you find one false, say at which input.
  Laid BY PROGRAM, IN A SANDBOX (cutbox-rows.mjs): the forced cells as the released guide's own fill.sh prints them over the translation 161a73a4d35708ef… (all of the seat's roots in one cut). By AI agents, Wed Nov 11 2026. No macro, syntax, notation, axiom, sorry.
-/
import Derived.Test.YtaedgbkeiankcaaChecked
import GoSem.Claim
import GoSem.ClaimJoined
import GoSem.ClaimMapViews
import Derived.JoinedTies
import Derived.KernelRfl
namespace Go.Proofs.Ytaedgbkeiankcaa
/- THE CELL 'sum', in the pinned program and in every row, IS THE sha256 OF THE DUMP (.gsa) THAT YtaedgbkeiankcaaProg.lean LOADS. Nothing in Lean hashes anything: it is a label: what it is worth is what the hold of that sum in a sandbox is worth. -/
noncomputable def Try.pinned : Pinned := { name := "ytaedgbkeiankcaa", sum := "161a73a4d35708ef068859edf86680a9fd7a920ad5d418bdf6c359a60261c242", checked := Try.checked }
namespace Rows
def none {H : Type} : Left H := { results := [], args := [] }

/-- 'folkmootlaw04.TopoChecks': WHATEVER THE INPUT: true; the input reads as it did. -/
def topoChecksSpec : ChangeSpec := { name := "topoChecks", fn := fun _ => fun
  | [d] => { results := [.lit (.bool true)], args := [d] }
  | _ => none }
def topoChecksRow : OpenClaim := { program := "ytaedgbkeiankcaa", sum := "161a73a4d35708ef068859edf86680a9fd7a920ad5d418bdf6c359a60261c242", func := "folkmoot/folkmootlaw04.TopoChecks", spec := "topoChecks", inPlace := ["internal/bytealg.abigen_runtime_cmpstring"], unfollowed := true, recurses := true, apart := false }
def TopoChecksSaid : Prop := topoChecksRow.holds Try.pinned (OpenSpec.ofChange topoChecksSpec)

/-- ITS FALSE NEIGHBOUR: 'it returns false'. Refute it at one input. -/
def topoChecksWrong : ChangeSpec := { name := "topoChecks", fn := fun _ => fun
  | [d] => { results := [.lit (.bool false)], args := [d] }
  | _ => none }
def TopoChecksWrongFalsely : Prop := topoChecksRow.holds Try.pinned (OpenSpec.ofChange topoChecksWrong)

/-- 'folkmootlaw04.TopoWhole': WHATEVER THE INPUT: true; the input reads as it did. -/
def topoWholeSpec : ChangeSpec := { name := "topoWhole", fn := fun _ => fun
  | [d1, d2] => { results := [.lit (.bool true)], args := [d1, d2] }
  | _ => none }
def topoWholeRow : OpenClaim := { program := "ytaedgbkeiankcaa", sum := "161a73a4d35708ef068859edf86680a9fd7a920ad5d418bdf6c359a60261c242", func := "folkmoot/folkmootlaw04.TopoWhole", spec := "topoWhole", inPlace := ["internal/bytealg.abigen_runtime_cmpstring"], unfollowed := true, recurses := true, apart := false }
def TopoWholeSaid : Prop := topoWholeRow.holds Try.pinned (OpenSpec.ofChange topoWholeSpec)

/-- ITS FALSE NEIGHBOUR: 'it returns false'. Refute it at one input. -/
def topoWholeWrong : ChangeSpec := { name := "topoWhole", fn := fun _ => fun
  | [d1, d2] => { results := [.lit (.bool false)], args := [d1, d2] }
  | _ => none }
def TopoWholeWrongFalsely : Prop := topoWholeRow.holds Try.pinned (OpenSpec.ofChange topoWholeWrong)

/-- 'folkmootlaw04.TopoKeeps': WHATEVER THE INPUT: true; the input reads as it did. -/
def topoKeepsSpec : ChangeSpec := { name := "topoKeeps", fn := fun _ => fun
  | [d1, d2, d3] => { results := [.lit (.bool true)], args := [d1, d2, d3] }
  | _ => none }
def topoKeepsRow : OpenClaim := { program := "ytaedgbkeiankcaa", sum := "161a73a4d35708ef068859edf86680a9fd7a920ad5d418bdf6c359a60261c242", func := "folkmoot/folkmootlaw04.TopoKeeps", spec := "topoKeeps", inPlace := ["internal/bytealg.abigen_runtime_cmpstring"], unfollowed := true, recurses := true, apart := false }
def TopoKeepsSaid : Prop := topoKeepsRow.holds Try.pinned (OpenSpec.ofChange topoKeepsSpec)

/-- ITS FALSE NEIGHBOUR: 'it returns false'. Refute it at one input. -/
def topoKeepsWrong : ChangeSpec := { name := "topoKeeps", fn := fun _ => fun
  | [d1, d2, d3] => { results := [.lit (.bool false)], args := [d1, d2, d3] }
  | _ => none }
def TopoKeepsWrongFalsely : Prop := topoKeepsRow.holds Try.pinned (OpenSpec.ofChange topoKeepsWrong)

/-- 'folkmootlaw04.TopoTells': WHATEVER THE INPUT: true; the input reads as it did. -/
def topoTellsSpec : ChangeSpec := { name := "topoTells", fn := fun _ => fun
  | [d1, d2, d3, d4, d5] => { results := [.lit (.bool true)], args := [d1, d2, d3, d4, d5] }
  | _ => none }
def topoTellsRow : OpenClaim := { program := "ytaedgbkeiankcaa", sum := "161a73a4d35708ef068859edf86680a9fd7a920ad5d418bdf6c359a60261c242", func := "folkmoot/folkmootlaw04.TopoTells", spec := "topoTells", inPlace := ["internal/bytealg.abigen_runtime_cmpstring"], unfollowed := true, recurses := true, apart := false }
def TopoTellsSaid : Prop := topoTellsRow.holds Try.pinned (OpenSpec.ofChange topoTellsSpec)

/-- ITS FALSE NEIGHBOUR: 'it returns false'. Refute it at one input. -/
def topoTellsWrong : ChangeSpec := { name := "topoTells", fn := fun _ => fun
  | [d1, d2, d3, d4, d5] => { results := [.lit (.bool false)], args := [d1, d2, d3, d4, d5] }
  | _ => none }
def TopoTellsWrongFalsely : Prop := topoTellsRow.holds Try.pinned (OpenSpec.ofChange topoTellsWrong)

/-- 'folkmootlaw04.TopoOnce': WHATEVER THE INPUT: true; the input reads as it did. -/
def topoOnceSpec : ChangeSpec := { name := "topoOnce", fn := fun _ => fun
  | [d1, d2] => { results := [.lit (.bool true)], args := [d1, d2] }
  | _ => none }
def topoOnceRow : OpenClaim := { program := "ytaedgbkeiankcaa", sum := "161a73a4d35708ef068859edf86680a9fd7a920ad5d418bdf6c359a60261c242", func := "folkmoot/folkmootlaw04.TopoOnce", spec := "topoOnce", inPlace := ["internal/bytealg.abigen_runtime_cmpstring"], unfollowed := true, recurses := true, apart := false }
def TopoOnceSaid : Prop := topoOnceRow.holds Try.pinned (OpenSpec.ofChange topoOnceSpec)

/-- ITS FALSE NEIGHBOUR: 'it returns false'. Refute it at one input. -/
def topoOnceWrong : ChangeSpec := { name := "topoOnce", fn := fun _ => fun
  | [d1, d2] => { results := [.lit (.bool false)], args := [d1, d2] }
  | _ => none }
def TopoOnceWrongFalsely : Prop := topoOnceRow.holds Try.pinned (OpenSpec.ofChange topoOnceWrong)

/-- 'folkmootlaw04.TopoTouches': WHATEVER THE INPUT: true; the input reads as it did. -/
def topoTouchesSpec : ChangeSpec := { name := "topoTouches", fn := fun _ => fun
  | [d1, d2, d3] => { results := [.lit (.bool true)], args := [d1, d2, d3] }
  | _ => none }
def topoTouchesRow : OpenClaim := { program := "ytaedgbkeiankcaa", sum := "161a73a4d35708ef068859edf86680a9fd7a920ad5d418bdf6c359a60261c242", func := "folkmoot/folkmootlaw04.TopoTouches", spec := "topoTouches", inPlace := ["internal/bytealg.abigen_runtime_cmpstring"], unfollowed := true, recurses := true, apart := false }
def TopoTouchesSaid : Prop := topoTouchesRow.holds Try.pinned (OpenSpec.ofChange topoTouchesSpec)

/-- ITS FALSE NEIGHBOUR: 'it returns false'. Refute it at one input. -/
def topoTouchesWrong : ChangeSpec := { name := "topoTouches", fn := fun _ => fun
  | [d1, d2, d3] => { results := [.lit (.bool false)], args := [d1, d2, d3] }
  | _ => none }
def TopoTouchesWrongFalsely : Prop := topoTouchesRow.holds Try.pinned (OpenSpec.ofChange topoTouchesWrong)

/- THE SECOND FORM. 'bulk': how many values and letters a reading holds, each counted each time it is reached (what is shared counts as often as it is met; a slice's spare places count too). A statement '..UptoSaid' is the law's where the arguments, and the package variables that the reading takes, are together of bulk at most 1048576: NARROWER than '..Said'. Prove '..Said' where nothing that the law and all that it calls make is longer than what came in: it says more and counts as full. Else prove '..UptoSaid'. A law counts once. -/
mutual
def uptoBulk {H : Type} : DataW H → Nat
  | .lit (.string bytes) => bytes.length + 1
  | .lit _ => 1
  | .nil => 1
  | .ptr d => uptoBulk d + 1
  | .slice elems spare => uptoBulkAll elems + uptoBulkAll spare + 1
  | .agg parts => uptoBulkAll parts + 1
  | .iface _ d => uptoBulk d + 1
  | .map entries => uptoBulkEntries entries + 1
  | .held _ => 1
def uptoBulkAll {H : Type} : List (DataW H) → Nat
  | [] => 0
  | d :: r => uptoBulk d + uptoBulkAll r
def uptoBulkEntries {H : Type} : List (Lit × DataW H) → Nat
  | [] => 0
  | x :: r => uptoBulkEntry x + uptoBulkEntries r
def uptoBulkEntry {H : Type} : Lit × DataW H → Nat
  | (.string bytes, d) => bytes.length + uptoBulk d + 1
  | (_, d) => uptoBulk d + 1
 end
def uptoSmall : (H : Type) → List (DataW H) → Bool := fun _ ds => decide (uptoBulkAll ds ≤ 1048576)
def OpenSpec.upto (s : _root_.Go.ChangeSpec) : _root_.Go.OpenSpec := { _root_.Go.OpenSpec.ofChange s with cond := some uptoSmall }

/-- 'folkmootlaw04.TopoChecks', WHERE WHAT IT READS IS OF BULK AT MOST 1048576: true; the input reads as it did. -/
def topoChecksUptoRow : OpenClaim := { program := "ytaedgbkeiankcaa", sum := "161a73a4d35708ef068859edf86680a9fd7a920ad5d418bdf6c359a60261c242", func := "folkmoot/folkmootlaw04.TopoChecks", spec := "topoChecks", inPlace := ["internal/bytealg.abigen_runtime_cmpstring"], unfollowed := true, recurses := true, apart := false, narrowed := true }
def TopoChecksUptoSaid : Prop := topoChecksUptoRow.holds Try.pinned (OpenSpec.upto topoChecksSpec)

/-- 'folkmootlaw04.TopoWhole', WHERE WHAT IT READS IS OF BULK AT MOST 1048576: true; the input reads as it did. -/
def topoWholeUptoRow : OpenClaim := { program := "ytaedgbkeiankcaa", sum := "161a73a4d35708ef068859edf86680a9fd7a920ad5d418bdf6c359a60261c242", func := "folkmoot/folkmootlaw04.TopoWhole", spec := "topoWhole", inPlace := ["internal/bytealg.abigen_runtime_cmpstring"], unfollowed := true, recurses := true, apart := false, narrowed := true }
def TopoWholeUptoSaid : Prop := topoWholeUptoRow.holds Try.pinned (OpenSpec.upto topoWholeSpec)

/-- 'folkmootlaw04.TopoKeeps', WHERE WHAT IT READS IS OF BULK AT MOST 1048576: true; the input reads as it did. -/
def topoKeepsUptoRow : OpenClaim := { program := "ytaedgbkeiankcaa", sum := "161a73a4d35708ef068859edf86680a9fd7a920ad5d418bdf6c359a60261c242", func := "folkmoot/folkmootlaw04.TopoKeeps", spec := "topoKeeps", inPlace := ["internal/bytealg.abigen_runtime_cmpstring"], unfollowed := true, recurses := true, apart := false, narrowed := true }
def TopoKeepsUptoSaid : Prop := topoKeepsUptoRow.holds Try.pinned (OpenSpec.upto topoKeepsSpec)

/-- 'folkmootlaw04.TopoTells', WHERE WHAT IT READS IS OF BULK AT MOST 1048576: true; the input reads as it did. -/
def topoTellsUptoRow : OpenClaim := { program := "ytaedgbkeiankcaa", sum := "161a73a4d35708ef068859edf86680a9fd7a920ad5d418bdf6c359a60261c242", func := "folkmoot/folkmootlaw04.TopoTells", spec := "topoTells", inPlace := ["internal/bytealg.abigen_runtime_cmpstring"], unfollowed := true, recurses := true, apart := false, narrowed := true }
def TopoTellsUptoSaid : Prop := topoTellsUptoRow.holds Try.pinned (OpenSpec.upto topoTellsSpec)

/-- 'folkmootlaw04.TopoOnce', WHERE WHAT IT READS IS OF BULK AT MOST 1048576: true; the input reads as it did. -/
def topoOnceUptoRow : OpenClaim := { program := "ytaedgbkeiankcaa", sum := "161a73a4d35708ef068859edf86680a9fd7a920ad5d418bdf6c359a60261c242", func := "folkmoot/folkmootlaw04.TopoOnce", spec := "topoOnce", inPlace := ["internal/bytealg.abigen_runtime_cmpstring"], unfollowed := true, recurses := true, apart := false, narrowed := true }
def TopoOnceUptoSaid : Prop := topoOnceUptoRow.holds Try.pinned (OpenSpec.upto topoOnceSpec)

/-- 'folkmootlaw04.TopoTouches', WHERE WHAT IT READS IS OF BULK AT MOST 1048576: true; the input reads as it did. -/
def topoTouchesUptoRow : OpenClaim := { program := "ytaedgbkeiankcaa", sum := "161a73a4d35708ef068859edf86680a9fd7a920ad5d418bdf6c359a60261c242", func := "folkmoot/folkmootlaw04.TopoTouches", spec := "topoTouches", inPlace := ["internal/bytealg.abigen_runtime_cmpstring"], unfollowed := true, recurses := true, apart := false, narrowed := true }
def TopoTouchesUptoSaid : Prop := topoTouchesUptoRow.holds Try.pinned (OpenSpec.upto topoTouchesSpec)

end Rows
end Go.Proofs.Ytaedgbkeiankcaa
