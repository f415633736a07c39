/-
  No cell of these rows narrows 'for every input' (looked for: loops, veiled, ifaces, maps, wideKeys, modest, calm, conditions, laid).
  DERIVED. THE GIVEN ROWS OF THIS SEAT. 6 by the template 'for every input the law returns true; each argument reads behind the call as it read before'; 0 by the template 'total and deterministic' (their statements: YtbljhngekhgbbaaGreatTotals.lean).
  GIVEN WITH THE SEED: the statements are not yours to turn. If you find one false, say at which input.
  Laid BY PROGRAM, IN A SANDBOX (cutbox-rows.mjs): the forced cells as the released guide's own fill.sh prints them over the translation 34c4ba7e29dbb710… (all of the seat's roots in one cut). By AI agents, Wed Nov 11 2026. No macro, syntax, notation, axiom, sorry.
-/
import Derived.Test.YtbljhngekhgbbaaGreatChecked
import GoSem.Claim
import GoSem.ClaimJoined
import GoSem.ClaimMapViews
import Derived.JoinedTies
import Derived.KernelRfl
namespace Go.Proofs.YtbljhngekhgbbaaGreat
/- THE CELL 'sum', in the pinned program and in every row, IS THE sha256 OF THE DUMP (.gsa) THAT YtbljhngekhgbbaaGreatProg.lean LOADS. Nothing in Lean hashes anything: it is a label: what it is worth is what the hold of that sum in a sandbox is worth. -/
noncomputable def Tryz.pinned : Pinned := { name := "ytbljhngekhgbbaagreat", sum := "34c4ba7e29dbb7106c0ba883380474d3da3a58a1077dba1dcf8f8bef53f7ac1f", checked := Tryz.checked }
namespace Rows
def none {H : Type} : Left H := { results := [], args := [] }

/-- 'folkmootlaw09.CmdBallots': WHATEVER THE INPUT: true; the input reads as it did. -/
def cmdBallotsSpec : ChangeSpec := { name := "cmdBallots", fn := fun _ => fun
  | [d1, d2, d3, d4, d5] => { results := [.lit (.bool true)], args := [d1, d2, d3, d4, d5] }
  | _ => none }
def cmdBallotsRow : OpenClaim := { program := "ytbljhngekhgbbaagreat", sum := "34c4ba7e29dbb7106c0ba883380474d3da3a58a1077dba1dcf8f8bef53f7ac1f", func := "folkmoot/folkmootlaw09.CmdBallots", spec := "cmdBallots", inPlace := ["math.Float64frombits"], unfollowed := true, recurses := true, apart := false }
def CmdBallotsSaid : Prop := cmdBallotsRow.holds Tryz.pinned (OpenSpec.ofChange cmdBallotsSpec)

/-- ITS FALSE NEIGHBOUR: 'it returns false'. Refute it at one input. -/
def cmdBallotsWrong : ChangeSpec := { name := "cmdBallots", fn := fun _ => fun
  | [d1, d2, d3, d4, d5] => { results := [.lit (.bool false)], args := [d1, d2, d3, d4, d5] }
  | _ => none }
def CmdBallotsWrongFalsely : Prop := cmdBallotsRow.holds Tryz.pinned (OpenSpec.ofChange cmdBallotsWrong)

/-- 'folkmootlaw09.CmdChecks': WHATEVER THE INPUT: true; the input reads as it did. -/
def cmdChecksSpec : ChangeSpec := { name := "cmdChecks", fn := fun _ => fun
  | [d1, d2] => { results := [.lit (.bool true)], args := [d1, d2] }
  | _ => none }
def cmdChecksRow : OpenClaim := { program := "ytbljhngekhgbbaagreat", sum := "34c4ba7e29dbb7106c0ba883380474d3da3a58a1077dba1dcf8f8bef53f7ac1f", func := "folkmoot/folkmootlaw09.CmdChecks", spec := "cmdChecks", inPlace := ["math.Float64frombits"], unfollowed := true, recurses := true, apart := false }
def CmdChecksSaid : Prop := cmdChecksRow.holds Tryz.pinned (OpenSpec.ofChange cmdChecksSpec)

/-- ITS FALSE NEIGHBOUR: 'it returns false'. Refute it at one input. -/
def cmdChecksWrong : ChangeSpec := { name := "cmdChecks", fn := fun _ => fun
  | [d1, d2] => { results := [.lit (.bool false)], args := [d1, d2] }
  | _ => none }
def CmdChecksWrongFalsely : Prop := cmdChecksRow.holds Tryz.pinned (OpenSpec.ofChange cmdChecksWrong)

/-- 'folkmootlaw09.CmdFirst': WHATEVER THE INPUT: true; the input reads as it did. -/
def cmdFirstSpec : ChangeSpec := { name := "cmdFirst", fn := fun _ => fun
  | [d1, d2, d3, d4, d5, d6] => { results := [.lit (.bool true)], args := [d1, d2, d3, d4, d5, d6] }
  | _ => none }
def cmdFirstRow : OpenClaim := { program := "ytbljhngekhgbbaagreat", sum := "34c4ba7e29dbb7106c0ba883380474d3da3a58a1077dba1dcf8f8bef53f7ac1f", func := "folkmoot/folkmootlaw09.CmdFirst", spec := "cmdFirst", inPlace := ["math.Float64frombits"], unfollowed := true, recurses := true, apart := false }
def CmdFirstSaid : Prop := cmdFirstRow.holds Tryz.pinned (OpenSpec.ofChange cmdFirstSpec)

/-- ITS FALSE NEIGHBOUR: 'it returns false'. Refute it at one input. -/
def cmdFirstWrong : ChangeSpec := { name := "cmdFirst", fn := fun _ => fun
  | [d1, d2, d3, d4, d5, d6] => { results := [.lit (.bool false)], args := [d1, d2, d3, d4, d5, d6] }
  | _ => none }
def CmdFirstWrongFalsely : Prop := cmdFirstRow.holds Tryz.pinned (OpenSpec.ofChange cmdFirstWrong)

/-- 'folkmootlaw09.CmdPlays': WHATEVER THE INPUT: true; the input reads as it did. -/
def cmdPlaysSpec : ChangeSpec := { name := "cmdPlays", fn := fun _ => fun
  | [d1, d2] => { results := [.lit (.bool true)], args := [d1, d2] }
  | _ => none }
def cmdPlaysRow : OpenClaim := { program := "ytbljhngekhgbbaagreat", sum := "34c4ba7e29dbb7106c0ba883380474d3da3a58a1077dba1dcf8f8bef53f7ac1f", func := "folkmoot/folkmootlaw09.CmdPlays", spec := "cmdPlays", inPlace := ["math.Float64frombits"], unfollowed := true, recurses := true, apart := false }
def CmdPlaysSaid : Prop := cmdPlaysRow.holds Tryz.pinned (OpenSpec.ofChange cmdPlaysSpec)

/-- ITS FALSE NEIGHBOUR: 'it returns false'. Refute it at one input. -/
def cmdPlaysWrong : ChangeSpec := { name := "cmdPlays", fn := fun _ => fun
  | [d1, d2] => { results := [.lit (.bool false)], args := [d1, d2] }
  | _ => none }
def CmdPlaysWrongFalsely : Prop := cmdPlaysRow.holds Tryz.pinned (OpenSpec.ofChange cmdPlaysWrong)

/-- 'folkmootlaw09.CmdEnds': WHATEVER THE INPUT: true; the input reads as it did. -/
def cmdEndsSpec : ChangeSpec := { name := "cmdEnds", fn := fun _ => fun
  | [d1, d2, d3, d4, d5, d6] => { results := [.lit (.bool true)], args := [d1, d2, d3, d4, d5, d6] }
  | _ => none }
def cmdEndsRow : OpenClaim := { program := "ytbljhngekhgbbaagreat", sum := "34c4ba7e29dbb7106c0ba883380474d3da3a58a1077dba1dcf8f8bef53f7ac1f", func := "folkmoot/folkmootlaw09.CmdEnds", spec := "cmdEnds", inPlace := ["math.Float64frombits"], unfollowed := true, recurses := true, apart := false }
def CmdEndsSaid : Prop := cmdEndsRow.holds Tryz.pinned (OpenSpec.ofChange cmdEndsSpec)

/-- ITS FALSE NEIGHBOUR: 'it returns false'. Refute it at one input. -/
def cmdEndsWrong : ChangeSpec := { name := "cmdEnds", fn := fun _ => fun
  | [d1, d2, d3, d4, d5, d6] => { results := [.lit (.bool false)], args := [d1, d2, d3, d4, d5, d6] }
  | _ => none }
def CmdEndsWrongFalsely : Prop := cmdEndsRow.holds Tryz.pinned (OpenSpec.ofChange cmdEndsWrong)

/-- 'folkmootlaw09.CmdGrows': WHATEVER THE INPUT: true; the input reads as it did. -/
def cmdGrowsSpec : ChangeSpec := { name := "cmdGrows", fn := fun _ => fun
  | [d1, d2] => { results := [.lit (.bool true)], args := [d1, d2] }
  | _ => none }
def cmdGrowsRow : OpenClaim := { program := "ytbljhngekhgbbaagreat", sum := "34c4ba7e29dbb7106c0ba883380474d3da3a58a1077dba1dcf8f8bef53f7ac1f", func := "folkmoot/folkmootlaw09.CmdGrows", spec := "cmdGrows", inPlace := ["math.Float64frombits"], unfollowed := true, recurses := true, apart := false }
def CmdGrowsSaid : Prop := cmdGrowsRow.holds Tryz.pinned (OpenSpec.ofChange cmdGrowsSpec)

/-- ITS FALSE NEIGHBOUR: 'it returns false'. Refute it at one input. -/
def cmdGrowsWrong : ChangeSpec := { name := "cmdGrows", fn := fun _ => fun
  | [d1, d2] => { results := [.lit (.bool false)], args := [d1, d2] }
  | _ => none }
def CmdGrowsWrongFalsely : Prop := cmdGrowsRow.holds Tryz.pinned (OpenSpec.ofChange cmdGrowsWrong)

/- THE SECOND FORM. 'bulk': how many values and letters a reading holds, each counted each time it is reached (what is shared counts as often as it is met; a slice's spare places count too). A statement '..UptoSaid' is the law's where the arguments, and the package variables that the reading takes, are together of bulk at most 1048576: NARROWER than '..Said'. Prove '..Said' where nothing that the law and all that it calls make is longer than what came in: it says more and counts as full. Else prove '..UptoSaid'. A law counts once. -/
mutual
def uptoBulk {H : Type} : DataW H → Nat
  | .lit (.string bytes) => bytes.length + 1
  | .lit _ => 1
  | .nil => 1
  | .ptr d => uptoBulk d + 1
  | .slice elems spare => uptoBulkAll elems + uptoBulkAll spare + 1
  | .agg parts => uptoBulkAll parts + 1
  | .iface _ d => uptoBulk d + 1
  | .map entries => uptoBulkEntries entries + 1
  | .held _ => 1
def uptoBulkAll {H : Type} : List (DataW H) → Nat
  | [] => 0
  | d :: r => uptoBulk d + uptoBulkAll r
def uptoBulkEntries {H : Type} : List (Lit × DataW H) → Nat
  | [] => 0
  | x :: r => uptoBulkEntry x + uptoBulkEntries r
def uptoBulkEntry {H : Type} : Lit × DataW H → Nat
  | (.string bytes, d) => bytes.length + uptoBulk d + 1
  | (_, d) => uptoBulk d + 1
 end
def uptoSmall : (H : Type) → List (DataW H) → Bool := fun _ ds => decide (uptoBulkAll ds ≤ 1048576)
def OpenSpec.upto (s : _root_.Go.ChangeSpec) : _root_.Go.OpenSpec := { _root_.Go.OpenSpec.ofChange s with cond := some uptoSmall }

/-- 'folkmootlaw09.CmdBallots', WHERE WHAT IT READS IS OF BULK AT MOST 1048576: true; the input reads as it did. -/
def cmdBallotsUptoRow : OpenClaim := { program := "ytbljhngekhgbbaagreat", sum := "34c4ba7e29dbb7106c0ba883380474d3da3a58a1077dba1dcf8f8bef53f7ac1f", func := "folkmoot/folkmootlaw09.CmdBallots", spec := "cmdBallots", inPlace := ["math.Float64frombits"], unfollowed := true, recurses := true, apart := false, narrowed := true }
def CmdBallotsUptoSaid : Prop := cmdBallotsUptoRow.holds Tryz.pinned (OpenSpec.upto cmdBallotsSpec)

/-- 'folkmootlaw09.CmdChecks', WHERE WHAT IT READS IS OF BULK AT MOST 1048576: true; the input reads as it did. -/
def cmdChecksUptoRow : OpenClaim := { program := "ytbljhngekhgbbaagreat", sum := "34c4ba7e29dbb7106c0ba883380474d3da3a58a1077dba1dcf8f8bef53f7ac1f", func := "folkmoot/folkmootlaw09.CmdChecks", spec := "cmdChecks", inPlace := ["math.Float64frombits"], unfollowed := true, recurses := true, apart := false, narrowed := true }
def CmdChecksUptoSaid : Prop := cmdChecksUptoRow.holds Tryz.pinned (OpenSpec.upto cmdChecksSpec)

/-- 'folkmootlaw09.CmdFirst', WHERE WHAT IT READS IS OF BULK AT MOST 1048576: true; the input reads as it did. -/
def cmdFirstUptoRow : OpenClaim := { program := "ytbljhngekhgbbaagreat", sum := "34c4ba7e29dbb7106c0ba883380474d3da3a58a1077dba1dcf8f8bef53f7ac1f", func := "folkmoot/folkmootlaw09.CmdFirst", spec := "cmdFirst", inPlace := ["math.Float64frombits"], unfollowed := true, recurses := true, apart := false, narrowed := true }
def CmdFirstUptoSaid : Prop := cmdFirstUptoRow.holds Tryz.pinned (OpenSpec.upto cmdFirstSpec)

/-- 'folkmootlaw09.CmdPlays', WHERE WHAT IT READS IS OF BULK AT MOST 1048576: true; the input reads as it did. -/
def cmdPlaysUptoRow : OpenClaim := { program := "ytbljhngekhgbbaagreat", sum := "34c4ba7e29dbb7106c0ba883380474d3da3a58a1077dba1dcf8f8bef53f7ac1f", func := "folkmoot/folkmootlaw09.CmdPlays", spec := "cmdPlays", inPlace := ["math.Float64frombits"], unfollowed := true, recurses := true, apart := false, narrowed := true }
def CmdPlaysUptoSaid : Prop := cmdPlaysUptoRow.holds Tryz.pinned (OpenSpec.upto cmdPlaysSpec)

/-- 'folkmootlaw09.CmdEnds', WHERE WHAT IT READS IS OF BULK AT MOST 1048576: true; the input reads as it did. -/
def cmdEndsUptoRow : OpenClaim := { program := "ytbljhngekhgbbaagreat", sum := "34c4ba7e29dbb7106c0ba883380474d3da3a58a1077dba1dcf8f8bef53f7ac1f", func := "folkmoot/folkmootlaw09.CmdEnds", spec := "cmdEnds", inPlace := ["math.Float64frombits"], unfollowed := true, recurses := true, apart := false, narrowed := true }
def CmdEndsUptoSaid : Prop := cmdEndsUptoRow.holds Tryz.pinned (OpenSpec.upto cmdEndsSpec)

/-- 'folkmootlaw09.CmdGrows', WHERE WHAT IT READS IS OF BULK AT MOST 1048576: true; the input reads as it did. -/
def cmdGrowsUptoRow : OpenClaim := { program := "ytbljhngekhgbbaagreat", sum := "34c4ba7e29dbb7106c0ba883380474d3da3a58a1077dba1dcf8f8bef53f7ac1f", func := "folkmoot/folkmootlaw09.CmdGrows", spec := "cmdGrows", inPlace := ["math.Float64frombits"], unfollowed := true, recurses := true, apart := false, narrowed := true }
def CmdGrowsUptoSaid : Prop := cmdGrowsUptoRow.holds Tryz.pinned (OpenSpec.upto cmdGrowsSpec)

end Rows
end Go.Proofs.YtbljhngekhgbbaaGreat
