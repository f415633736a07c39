/-
  No cell of these rows narrows 'for every input' (looked for: loops, veiled, ifaces, maps, wideKeys, modest, calm, conditions, laid).
  DERIVED. THE GIVEN ROWS OF THIS SEAT. 10 by the template 'for every input the law returns true; each argument reads behind the call as it read before'; 0 by the template 'total and deterministic' (their statements: YtnhdjaegkccmaaaTotals.lean).
  GIVEN WITH THE SEED: the statements are not yours to turn. If you find one false, say at which input.
  Laid BY PROGRAM, IN A SANDBOX (cutbox-rows.mjs): the forced cells as the released guide's own fill.sh prints them over the translation 9b1efeaee07918c6… (all of the seat's roots in one cut). By AI agents, Wed Nov 11 2026. No macro, syntax, notation, axiom, sorry.
-/
import Derived.Test.YtnhdjaegkccmaaaChecked
import GoSem.Claim
import GoSem.ClaimJoined
import GoSem.ClaimMapViews
import Derived.JoinedTies
import Derived.KernelRfl
namespace Go.Proofs.Ytnhdjaegkccmaaa
/- THE CELL 'sum', in the pinned program and in every row, IS THE sha256 OF THE DUMP (.gsa) THAT YtnhdjaegkccmaaaProg.lean LOADS. Nothing in Lean hashes anything: it is a label: what it is worth is what the hold of that sum in a sandbox is worth. -/
noncomputable def Try.pinned : Pinned := { name := "ytnhdjaegkccmaaa", sum := "9b1efeaee07918c617fad3b5f18b103f4192c7f6730bc7259e83379cea586b86", checked := Try.checked }
namespace Rows
def none {H : Type} : Left H := { results := [], args := [] }

/-- 'folkmootlaw01.StampOrders': WHATEVER THE INPUT: true; the input reads as it did. -/
def stampOrdersSpec : ChangeSpec := { name := "stampOrders", fn := fun _ => fun
  | [d1, d2] => { results := [.lit (.bool true)], args := [d1, d2] }
  | _ => none }
def stampOrdersRow : OpenClaim := { program := "ytnhdjaegkccmaaa", sum := "9b1efeaee07918c617fad3b5f18b103f4192c7f6730bc7259e83379cea586b86", func := "folkmoot/folkmootlaw01.StampOrders", spec := "stampOrders", unfollowed := true, recurses := true, apart := false }
def StampOrdersSaid : Prop := stampOrdersRow.holds Try.pinned (OpenSpec.ofChange stampOrdersSpec)

/-- ITS FALSE NEIGHBOUR: 'it returns false'. Refute it at one input. -/
def stampOrdersWrong : ChangeSpec := { name := "stampOrders", fn := fun _ => fun
  | [d1, d2] => { results := [.lit (.bool false)], args := [d1, d2] }
  | _ => none }
def StampOrdersWrongFalsely : Prop := stampOrdersRow.holds Try.pinned (OpenSpec.ofChange stampOrdersWrong)

/-- 'folkmootlaw01.StampAfter': WHATEVER THE INPUT: true; the input reads as it did. -/
def stampAfterSpec : ChangeSpec := { name := "stampAfter", fn := fun _ => fun
  | [d1, d2] => { results := [.lit (.bool true)], args := [d1, d2] }
  | _ => none }
def stampAfterRow : OpenClaim := { program := "ytnhdjaegkccmaaa", sum := "9b1efeaee07918c617fad3b5f18b103f4192c7f6730bc7259e83379cea586b86", func := "folkmoot/folkmootlaw01.StampAfter", spec := "stampAfter", unfollowed := true, recurses := true, apart := false }
def StampAfterSaid : Prop := stampAfterRow.holds Try.pinned (OpenSpec.ofChange stampAfterSpec)

/-- ITS FALSE NEIGHBOUR: 'it returns false'. Refute it at one input. -/
def stampAfterWrong : ChangeSpec := { name := "stampAfter", fn := fun _ => fun
  | [d1, d2] => { results := [.lit (.bool false)], args := [d1, d2] }
  | _ => none }
def StampAfterWrongFalsely : Prop := stampAfterRow.holds Try.pinned (OpenSpec.ofChange stampAfterWrong)

/-- 'folkmootlaw01.StampGreatest': WHATEVER THE INPUT: true; the input reads as it did. -/
def stampGreatestSpec : ChangeSpec := { name := "stampGreatest", fn := fun _ => fun
  | [d1, d2] => { results := [.lit (.bool true)], args := [d1, d2] }
  | _ => none }
def stampGreatestRow : OpenClaim := { program := "ytnhdjaegkccmaaa", sum := "9b1efeaee07918c617fad3b5f18b103f4192c7f6730bc7259e83379cea586b86", func := "folkmoot/folkmootlaw01.StampGreatest", spec := "stampGreatest", unfollowed := true, recurses := true, apart := false }
def StampGreatestSaid : Prop := stampGreatestRow.holds Try.pinned (OpenSpec.ofChange stampGreatestSpec)

/-- ITS FALSE NEIGHBOUR: 'it returns false'. Refute it at one input. -/
def stampGreatestWrong : ChangeSpec := { name := "stampGreatest", fn := fun _ => fun
  | [d1, d2] => { results := [.lit (.bool false)], args := [d1, d2] }
  | _ => none }
def StampGreatestWrongFalsely : Prop := stampGreatestRow.holds Try.pinned (OpenSpec.ofChange stampGreatestWrong)

/-- 'folkmootlaw01.StampClock': WHATEVER THE INPUT: true; the input reads as it did. -/
def stampClockSpec : ChangeSpec := { name := "stampClock", fn := fun _ => fun
  | [d1, d2, d3] => { results := [.lit (.bool true)], args := [d1, d2, d3] }
  | _ => none }
def stampClockRow : OpenClaim := { program := "ytnhdjaegkccmaaa", sum := "9b1efeaee07918c617fad3b5f18b103f4192c7f6730bc7259e83379cea586b86", func := "folkmoot/folkmootlaw01.StampClock", spec := "stampClock", unfollowed := true, recurses := true, apart := false }
def StampClockSaid : Prop := stampClockRow.holds Try.pinned (OpenSpec.ofChange stampClockSpec)

/-- ITS FALSE NEIGHBOUR: 'it returns false'. Refute it at one input. -/
def stampClockWrong : ChangeSpec := { name := "stampClock", fn := fun _ => fun
  | [d1, d2, d3] => { results := [.lit (.bool false)], args := [d1, d2, d3] }
  | _ => none }
def StampClockWrongFalsely : Prop := stampClockRow.holds Try.pinned (OpenSpec.ofChange stampClockWrong)

/-- 'folkmootlaw01.StampRises': WHATEVER THE INPUT: true; the input reads as it did. -/
def stampRisesSpec : ChangeSpec := { name := "stampRises", fn := fun _ => fun
  | [d1, d2, d3] => { results := [.lit (.bool true)], args := [d1, d2, d3] }
  | _ => none }
def stampRisesRow : OpenClaim := { program := "ytnhdjaegkccmaaa", sum := "9b1efeaee07918c617fad3b5f18b103f4192c7f6730bc7259e83379cea586b86", func := "folkmoot/folkmootlaw01.StampRises", spec := "stampRises", unfollowed := true, recurses := true, apart := false }
def StampRisesSaid : Prop := stampRisesRow.holds Try.pinned (OpenSpec.ofChange stampRisesSpec)

/-- ITS FALSE NEIGHBOUR: 'it returns false'. Refute it at one input. -/
def stampRisesWrong : ChangeSpec := { name := "stampRises", fn := fun _ => fun
  | [d1, d2, d3] => { results := [.lit (.bool false)], args := [d1, d2, d3] }
  | _ => none }
def StampRisesWrongFalsely : Prop := stampRisesRow.holds Try.pinned (OpenSpec.ofChange stampRisesWrong)

/-- 'folkmootlaw01.StampNil': WHATEVER THE INPUT: true; the input reads as it did. -/
def stampNilSpec : ChangeSpec := { name := "stampNil", fn := fun _ => fun
  | [d1, d2] => { results := [.lit (.bool true)], args := [d1, d2] }
  | _ => none }
def stampNilRow : OpenClaim := { program := "ytnhdjaegkccmaaa", sum := "9b1efeaee07918c617fad3b5f18b103f4192c7f6730bc7259e83379cea586b86", func := "folkmoot/folkmootlaw01.StampNil", spec := "stampNil", unfollowed := true, recurses := true, apart := false }
def StampNilSaid : Prop := stampNilRow.holds Try.pinned (OpenSpec.ofChange stampNilSpec)

/-- ITS FALSE NEIGHBOUR: 'it returns false'. Refute it at one input. -/
def stampNilWrong : ChangeSpec := { name := "stampNil", fn := fun _ => fun
  | [d1, d2] => { results := [.lit (.bool false)], args := [d1, d2] }
  | _ => none }
def StampNilWrongFalsely : Prop := stampNilRow.holds Try.pinned (OpenSpec.ofChange stampNilWrong)

/-- 'folkmootlaw01.StampSorts': WHATEVER THE INPUT: true; the input reads as it did. -/
def stampSortsSpec : ChangeSpec := { name := "stampSorts", fn := fun _ => fun
  | [d1, d2] => { results := [.lit (.bool true)], args := [d1, d2] }
  | _ => none }
def stampSortsRow : OpenClaim := { program := "ytnhdjaegkccmaaa", sum := "9b1efeaee07918c617fad3b5f18b103f4192c7f6730bc7259e83379cea586b86", func := "folkmoot/folkmootlaw01.StampSorts", spec := "stampSorts", unfollowed := true, recurses := true, apart := false }
def StampSortsSaid : Prop := stampSortsRow.holds Try.pinned (OpenSpec.ofChange stampSortsSpec)

/-- ITS FALSE NEIGHBOUR: 'it returns false'. Refute it at one input. -/
def stampSortsWrong : ChangeSpec := { name := "stampSorts", fn := fun _ => fun
  | [d1, d2] => { results := [.lit (.bool false)], args := [d1, d2] }
  | _ => none }
def StampSortsWrongFalsely : Prop := stampSortsRow.holds Try.pinned (OpenSpec.ofChange stampSortsWrong)

/-- 'folkmootlaw01.StampParts': WHATEVER THE INPUT: true; the input reads as it did. -/
def stampPartsSpec : ChangeSpec := { name := "stampParts", fn := fun _ => fun
  | [d1, d2] => { results := [.lit (.bool true)], args := [d1, d2] }
  | _ => none }
def stampPartsRow : OpenClaim := { program := "ytnhdjaegkccmaaa", sum := "9b1efeaee07918c617fad3b5f18b103f4192c7f6730bc7259e83379cea586b86", func := "folkmoot/folkmootlaw01.StampParts", spec := "stampParts", unfollowed := true, recurses := true, apart := false }
def StampPartsSaid : Prop := stampPartsRow.holds Try.pinned (OpenSpec.ofChange stampPartsSpec)

/-- ITS FALSE NEIGHBOUR: 'it returns false'. Refute it at one input. -/
def stampPartsWrong : ChangeSpec := { name := "stampParts", fn := fun _ => fun
  | [d1, d2] => { results := [.lit (.bool false)], args := [d1, d2] }
  | _ => none }
def StampPartsWrongFalsely : Prop := stampPartsRow.holds Try.pinned (OpenSpec.ofChange stampPartsWrong)

/-- 'folkmootlaw01.StampMerges': WHATEVER THE INPUT: true; the input reads as it did. -/
def stampMergesSpec : ChangeSpec := { name := "stampMerges", fn := fun _ => fun
  | [d1, d2, d3, d4] => { results := [.lit (.bool true)], args := [d1, d2, d3, d4] }
  | _ => none }
def stampMergesRow : OpenClaim := { program := "ytnhdjaegkccmaaa", sum := "9b1efeaee07918c617fad3b5f18b103f4192c7f6730bc7259e83379cea586b86", func := "folkmoot/folkmootlaw01.StampMerges", spec := "stampMerges", unfollowed := true, recurses := true, apart := false }
def StampMergesSaid : Prop := stampMergesRow.holds Try.pinned (OpenSpec.ofChange stampMergesSpec)

/-- ITS FALSE NEIGHBOUR: 'it returns false'. Refute it at one input. -/
def stampMergesWrong : ChangeSpec := { name := "stampMerges", fn := fun _ => fun
  | [d1, d2, d3, d4] => { results := [.lit (.bool false)], args := [d1, d2, d3, d4] }
  | _ => none }
def StampMergesWrongFalsely : Prop := stampMergesRow.holds Try.pinned (OpenSpec.ofChange stampMergesWrong)

/-- 'folkmootlaw01.StampLists': WHATEVER THE INPUT: true; the input reads as it did. -/
def stampListsSpec : ChangeSpec := { name := "stampLists", fn := fun _ => fun
  | [d1, d2, d3] => { results := [.lit (.bool true)], args := [d1, d2, d3] }
  | _ => none }
def stampListsRow : OpenClaim := { program := "ytnhdjaegkccmaaa", sum := "9b1efeaee07918c617fad3b5f18b103f4192c7f6730bc7259e83379cea586b86", func := "folkmoot/folkmootlaw01.StampLists", spec := "stampLists", unfollowed := true, recurses := true, apart := false }
def StampListsSaid : Prop := stampListsRow.holds Try.pinned (OpenSpec.ofChange stampListsSpec)

/-- ITS FALSE NEIGHBOUR: 'it returns false'. Refute it at one input. -/
def stampListsWrong : ChangeSpec := { name := "stampLists", fn := fun _ => fun
  | [d1, d2, d3] => { results := [.lit (.bool false)], args := [d1, d2, d3] }
  | _ => none }
def StampListsWrongFalsely : Prop := stampListsRow.holds Try.pinned (OpenSpec.ofChange stampListsWrong)

/- THE SECOND FORM. 'bulk': how many values and letters a reading holds, each counted each time it is reached (what is shared counts as often as it is met; a slice's spare places count too). A statement '..UptoSaid' is the law's where the arguments, and the package variables that the reading takes, are together of bulk at most 1048576: NARROWER than '..Said'. Prove '..Said' where nothing that the law and all that it calls make is longer than what came in: it says more and counts as full. Else prove '..UptoSaid'. A law counts once. -/
mutual
def uptoBulk {H : Type} : DataW H → Nat
  | .lit (.string bytes) => bytes.length + 1
  | .lit _ => 1
  | .nil => 1
  | .ptr d => uptoBulk d + 1
  | .slice elems spare => uptoBulkAll elems + uptoBulkAll spare + 1
  | .agg parts => uptoBulkAll parts + 1
  | .iface _ d => uptoBulk d + 1
  | .map entries => uptoBulkEntries entries + 1
  | .held _ => 1
def uptoBulkAll {H : Type} : List (DataW H) → Nat
  | [] => 0
  | d :: r => uptoBulk d + uptoBulkAll r
def uptoBulkEntries {H : Type} : List (Lit × DataW H) → Nat
  | [] => 0
  | x :: r => uptoBulkEntry x + uptoBulkEntries r
def uptoBulkEntry {H : Type} : Lit × DataW H → Nat
  | (.string bytes, d) => bytes.length + uptoBulk d + 1
  | (_, d) => uptoBulk d + 1
 end
def uptoSmall : (H : Type) → List (DataW H) → Bool := fun _ ds => decide (uptoBulkAll ds ≤ 1048576)
def OpenSpec.upto (s : _root_.Go.ChangeSpec) : _root_.Go.OpenSpec := { _root_.Go.OpenSpec.ofChange s with cond := some uptoSmall }

/-- 'folkmootlaw01.StampOrders', WHERE WHAT IT READS IS OF BULK AT MOST 1048576: true; the input reads as it did. -/
def stampOrdersUptoRow : OpenClaim := { program := "ytnhdjaegkccmaaa", sum := "9b1efeaee07918c617fad3b5f18b103f4192c7f6730bc7259e83379cea586b86", func := "folkmoot/folkmootlaw01.StampOrders", spec := "stampOrders", unfollowed := true, recurses := true, apart := false, narrowed := true }
def StampOrdersUptoSaid : Prop := stampOrdersUptoRow.holds Try.pinned (OpenSpec.upto stampOrdersSpec)

/-- 'folkmootlaw01.StampAfter', WHERE WHAT IT READS IS OF BULK AT MOST 1048576: true; the input reads as it did. -/
def stampAfterUptoRow : OpenClaim := { program := "ytnhdjaegkccmaaa", sum := "9b1efeaee07918c617fad3b5f18b103f4192c7f6730bc7259e83379cea586b86", func := "folkmoot/folkmootlaw01.StampAfter", spec := "stampAfter", unfollowed := true, recurses := true, apart := false, narrowed := true }
def StampAfterUptoSaid : Prop := stampAfterUptoRow.holds Try.pinned (OpenSpec.upto stampAfterSpec)

/-- 'folkmootlaw01.StampGreatest', WHERE WHAT IT READS IS OF BULK AT MOST 1048576: true; the input reads as it did. -/
def stampGreatestUptoRow : OpenClaim := { program := "ytnhdjaegkccmaaa", sum := "9b1efeaee07918c617fad3b5f18b103f4192c7f6730bc7259e83379cea586b86", func := "folkmoot/folkmootlaw01.StampGreatest", spec := "stampGreatest", unfollowed := true, recurses := true, apart := false, narrowed := true }
def StampGreatestUptoSaid : Prop := stampGreatestUptoRow.holds Try.pinned (OpenSpec.upto stampGreatestSpec)

/-- 'folkmootlaw01.StampClock', WHERE WHAT IT READS IS OF BULK AT MOST 1048576: true; the input reads as it did. -/
def stampClockUptoRow : OpenClaim := { program := "ytnhdjaegkccmaaa", sum := "9b1efeaee07918c617fad3b5f18b103f4192c7f6730bc7259e83379cea586b86", func := "folkmoot/folkmootlaw01.StampClock", spec := "stampClock", unfollowed := true, recurses := true, apart := false, narrowed := true }
def StampClockUptoSaid : Prop := stampClockUptoRow.holds Try.pinned (OpenSpec.upto stampClockSpec)

/-- 'folkmootlaw01.StampRises', WHERE WHAT IT READS IS OF BULK AT MOST 1048576: true; the input reads as it did. -/
def stampRisesUptoRow : OpenClaim := { program := "ytnhdjaegkccmaaa", sum := "9b1efeaee07918c617fad3b5f18b103f4192c7f6730bc7259e83379cea586b86", func := "folkmoot/folkmootlaw01.StampRises", spec := "stampRises", unfollowed := true, recurses := true, apart := false, narrowed := true }
def StampRisesUptoSaid : Prop := stampRisesUptoRow.holds Try.pinned (OpenSpec.upto stampRisesSpec)

/-- 'folkmootlaw01.StampNil', WHERE WHAT IT READS IS OF BULK AT MOST 1048576: true; the input reads as it did. -/
def stampNilUptoRow : OpenClaim := { program := "ytnhdjaegkccmaaa", sum := "9b1efeaee07918c617fad3b5f18b103f4192c7f6730bc7259e83379cea586b86", func := "folkmoot/folkmootlaw01.StampNil", spec := "stampNil", unfollowed := true, recurses := true, apart := false, narrowed := true }
def StampNilUptoSaid : Prop := stampNilUptoRow.holds Try.pinned (OpenSpec.upto stampNilSpec)

/-- 'folkmootlaw01.StampSorts', WHERE WHAT IT READS IS OF BULK AT MOST 1048576: true; the input reads as it did. -/
def stampSortsUptoRow : OpenClaim := { program := "ytnhdjaegkccmaaa", sum := "9b1efeaee07918c617fad3b5f18b103f4192c7f6730bc7259e83379cea586b86", func := "folkmoot/folkmootlaw01.StampSorts", spec := "stampSorts", unfollowed := true, recurses := true, apart := false, narrowed := true }
def StampSortsUptoSaid : Prop := stampSortsUptoRow.holds Try.pinned (OpenSpec.upto stampSortsSpec)

/-- 'folkmootlaw01.StampParts', WHERE WHAT IT READS IS OF BULK AT MOST 1048576: true; the input reads as it did. -/
def stampPartsUptoRow : OpenClaim := { program := "ytnhdjaegkccmaaa", sum := "9b1efeaee07918c617fad3b5f18b103f4192c7f6730bc7259e83379cea586b86", func := "folkmoot/folkmootlaw01.StampParts", spec := "stampParts", unfollowed := true, recurses := true, apart := false, narrowed := true }
def StampPartsUptoSaid : Prop := stampPartsUptoRow.holds Try.pinned (OpenSpec.upto stampPartsSpec)

/-- 'folkmootlaw01.StampMerges', WHERE WHAT IT READS IS OF BULK AT MOST 1048576: true; the input reads as it did. -/
def stampMergesUptoRow : OpenClaim := { program := "ytnhdjaegkccmaaa", sum := "9b1efeaee07918c617fad3b5f18b103f4192c7f6730bc7259e83379cea586b86", func := "folkmoot/folkmootlaw01.StampMerges", spec := "stampMerges", unfollowed := true, recurses := true, apart := false, narrowed := true }
def StampMergesUptoSaid : Prop := stampMergesUptoRow.holds Try.pinned (OpenSpec.upto stampMergesSpec)

/-- 'folkmootlaw01.StampLists', WHERE WHAT IT READS IS OF BULK AT MOST 1048576: true; the input reads as it did. -/
def stampListsUptoRow : OpenClaim := { program := "ytnhdjaegkccmaaa", sum := "9b1efeaee07918c617fad3b5f18b103f4192c7f6730bc7259e83379cea586b86", func := "folkmoot/folkmootlaw01.StampLists", spec := "stampLists", unfollowed := true, recurses := true, apart := false, narrowed := true }
def StampListsUptoSaid : Prop := stampListsUptoRow.holds Try.pinned (OpenSpec.upto stampListsSpec)

end Rows
end Go.Proofs.Ytnhdjaegkccmaaa
