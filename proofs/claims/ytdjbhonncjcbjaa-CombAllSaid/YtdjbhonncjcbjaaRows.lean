/-
  No cell of these rows narrows 'for every input' (looked for: loops, veiled, ifaces, maps, wideKeys, modest, calm, conditions, laid).
  DERIVED. THE GIVEN ROWS OF THIS SEAT. 11 by the template 'for every input the law returns true; each argument reads behind the call as it read before'; 0 by the template 'total and deterministic' (their statements: YtdjbhonncjcbjaaTotals.lean).
  GIVEN WITH THE SEED: the statements are not yours to turn. If you find one false, say at which input.
  Laid BY PROGRAM, IN A SANDBOX (cutbox-rows.mjs): the forced cells as the released guide's own fill.sh prints them over the translation 07607d9ce47dee2c… (all of the seat's roots in one cut). By AI agents, Wed Nov 11 2026. No macro, syntax, notation, axiom, sorry.
-/
import Derived.Test.YtdjbhonncjcbjaaChecked
import GoSem.Claim
import GoSem.ClaimJoined
import GoSem.ClaimMapViews
import Derived.JoinedTies
import Derived.KernelRfl
namespace Go.Proofs.Ytdjbhonncjcbjaa
/- THE CELL 'sum', in the pinned program and in every row, IS THE sha256 OF THE DUMP (.gsa) THAT YtdjbhonncjcbjaaProg.lean LOADS. Nothing in Lean hashes anything: it is a label: what it is worth is what the hold of that sum in a sandbox is worth. -/
noncomputable def Try.pinned : Pinned := { name := "ytdjbhonncjcbjaa", sum := "07607d9ce47dee2cec9db3ae706d33fc4872730f84604f3bd9b7391b87c13a7e", checked := Try.checked }
namespace Rows
def none {H : Type} : Left H := { results := [], args := [] }

/-- 'quicksetkeep.SpotApart': WHATEVER THE INPUT: true; the input reads as it did. -/
def spotApartSpec : ChangeSpec := { name := "spotApart", fn := fun _ => fun
  | [d1, d2, d3, d4] => { results := [.lit (.bool true)], args := [d1, d2, d3, d4] }
  | _ => none }
def spotApartRow : OpenClaim := { program := "ytdjbhonncjcbjaa", sum := "07607d9ce47dee2cec9db3ae706d33fc4872730f84604f3bd9b7391b87c13a7e", func := "quickset/quicksetkeep.SpotApart", spec := "spotApart", apart := false }
def SpotApartSaid : Prop := spotApartRow.holds Try.pinned (OpenSpec.ofChange spotApartSpec)

/-- ITS FALSE NEIGHBOUR: 'it returns false'. Refute it at one input. -/
def spotApartWrong : ChangeSpec := { name := "spotApart", fn := fun _ => fun
  | [d1, d2, d3, d4] => { results := [.lit (.bool false)], args := [d1, d2, d3, d4] }
  | _ => none }
def SpotApartWrongFalsely : Prop := spotApartRow.holds Try.pinned (OpenSpec.ofChange spotApartWrong)

/-- 'quicksetkeep.CostRight': WHATEVER THE INPUT: true; the input reads as it did. -/
def costRightSpec : ChangeSpec := { name := "costRight", fn := fun _ => fun
  | [d1, d2, d3] => { results := [.lit (.bool true)], args := [d1, d2, d3] }
  | _ => none }
def costRightRow : OpenClaim := { program := "ytdjbhonncjcbjaa", sum := "07607d9ce47dee2cec9db3ae706d33fc4872730f84604f3bd9b7391b87c13a7e", func := "quickset/quicksetkeep.CostRight", spec := "costRight", apart := false }
def CostRightSaid : Prop := costRightRow.holds Try.pinned (OpenSpec.ofChange costRightSpec)

/-- ITS FALSE NEIGHBOUR: 'it returns false'. Refute it at one input. -/
def costRightWrong : ChangeSpec := { name := "costRight", fn := fun _ => fun
  | [d1, d2, d3] => { results := [.lit (.bool false)], args := [d1, d2, d3] }
  | _ => none }
def CostRightWrongFalsely : Prop := costRightRow.holds Try.pinned (OpenSpec.ofChange costRightWrong)

/-- 'quicksetkeep.CombPascal': WHATEVER THE INPUT: true; the input reads as it did. -/
def combPascalSpec : ChangeSpec := { name := "combPascal", fn := fun _ => fun
  | [d1, d2] => { results := [.lit (.bool true)], args := [d1, d2] }
  | _ => none }
def combPascalRow : OpenClaim := { program := "ytdjbhonncjcbjaa", sum := "07607d9ce47dee2cec9db3ae706d33fc4872730f84604f3bd9b7391b87c13a7e", func := "quickset/quicksetkeep.CombPascal", spec := "combPascal", apart := false }
def CombPascalSaid : Prop := combPascalRow.holds Try.pinned (OpenSpec.ofChange combPascalSpec)

/-- ITS FALSE NEIGHBOUR: 'it returns false'. Refute it at one input. -/
def combPascalWrong : ChangeSpec := { name := "combPascal", fn := fun _ => fun
  | [d1, d2] => { results := [.lit (.bool false)], args := [d1, d2] }
  | _ => none }
def CombPascalWrongFalsely : Prop := combPascalRow.holds Try.pinned (OpenSpec.ofChange combPascalWrong)

/-- 'quicksetkeep.FletChanged': WHATEVER THE INPUT: true; the input reads as it did. -/
def fletChangedSpec : ChangeSpec := { name := "fletChanged", fn := fun _ => fun
  | [d1, d2, d3] => { results := [.lit (.bool true)], args := [d1, d2, d3] }
  | _ => none }
def fletChangedRow : OpenClaim := { program := "ytdjbhonncjcbjaa", sum := "07607d9ce47dee2cec9db3ae706d33fc4872730f84604f3bd9b7391b87c13a7e", func := "quickset/quicksetkeep.FletChanged", spec := "fletChanged", apart := false }
def FletChangedSaid : Prop := fletChangedRow.holds Try.pinned (OpenSpec.ofChange fletChangedSpec)

/-- ITS FALSE NEIGHBOUR: 'it returns false'. Refute it at one input. -/
def fletChangedWrong : ChangeSpec := { name := "fletChanged", fn := fun _ => fun
  | [d1, d2, d3] => { results := [.lit (.bool false)], args := [d1, d2, d3] }
  | _ => none }
def FletChangedWrongFalsely : Prop := fletChangedRow.holds Try.pinned (OpenSpec.ofChange fletChangedWrong)

/-- 'quicksetkeep.FletSwapped': WHATEVER THE INPUT: true; the input reads as it did. -/
def fletSwappedSpec : ChangeSpec := { name := "fletSwapped", fn := fun _ => fun
  | [d1, d2] => { results := [.lit (.bool true)], args := [d1, d2] }
  | _ => none }
def fletSwappedRow : OpenClaim := { program := "ytdjbhonncjcbjaa", sum := "07607d9ce47dee2cec9db3ae706d33fc4872730f84604f3bd9b7391b87c13a7e", func := "quickset/quicksetkeep.FletSwapped", spec := "fletSwapped", apart := false }
def FletSwappedSaid : Prop := fletSwappedRow.holds Try.pinned (OpenSpec.ofChange fletSwappedSpec)

/-- ITS FALSE NEIGHBOUR: 'it returns false'. Refute it at one input. -/
def fletSwappedWrong : ChangeSpec := { name := "fletSwapped", fn := fun _ => fun
  | [d1, d2] => { results := [.lit (.bool false)], args := [d1, d2] }
  | _ => none }
def FletSwappedWrongFalsely : Prop := fletSwappedRow.holds Try.pinned (OpenSpec.ofChange fletSwappedWrong)

/-- 'quicksetkeep.ColumnsApart': WHATEVER THE INPUT: true; the input reads as it did. -/
def columnsApartSpec : ChangeSpec := { name := "columnsApart", fn := fun _ => fun
  | [d1, d2, d3, d4] => { results := [.lit (.bool true)], args := [d1, d2, d3, d4] }
  | _ => none }
def columnsApartRow : OpenClaim := { program := "ytdjbhonncjcbjaa", sum := "07607d9ce47dee2cec9db3ae706d33fc4872730f84604f3bd9b7391b87c13a7e", func := "quickset/quicksetkeep.ColumnsApart", spec := "columnsApart", apart := false }
def ColumnsApartSaid : Prop := columnsApartRow.holds Try.pinned (OpenSpec.ofChange columnsApartSpec)

/-- ITS FALSE NEIGHBOUR: 'it returns false'. Refute it at one input. -/
def columnsApartWrong : ChangeSpec := { name := "columnsApart", fn := fun _ => fun
  | [d1, d2, d3, d4] => { results := [.lit (.bool false)], args := [d1, d2, d3, d4] }
  | _ => none }
def ColumnsApartWrongFalsely : Prop := columnsApartRow.holds Try.pinned (OpenSpec.ofChange columnsApartWrong)

/-- 'quicksetkeep.FletParts': WHATEVER THE INPUT: true; the input reads as it did. -/
def fletPartsSpec : ChangeSpec := { name := "fletParts", fn := fun _ => fun
  | [d1, d2] => { results := [.lit (.bool true)], args := [d1, d2] }
  | _ => none }
def fletPartsRow : OpenClaim := { program := "ytdjbhonncjcbjaa", sum := "07607d9ce47dee2cec9db3ae706d33fc4872730f84604f3bd9b7391b87c13a7e", func := "quickset/quicksetkeep.FletParts", spec := "fletParts", apart := false }
def FletPartsSaid : Prop := fletPartsRow.holds Try.pinned (OpenSpec.ofChange fletPartsSpec)

/-- ITS FALSE NEIGHBOUR: 'it returns false'. Refute it at one input. -/
def fletPartsWrong : ChangeSpec := { name := "fletParts", fn := fun _ => fun
  | [d1, d2] => { results := [.lit (.bool false)], args := [d1, d2] }
  | _ => none }
def FletPartsWrongFalsely : Prop := fletPartsRow.holds Try.pinned (OpenSpec.ofChange fletPartsWrong)

/-- 'quicksetkeep.FletNoughts': WHATEVER THE INPUT: true; the input reads as it did. -/
def fletNoughtsSpec : ChangeSpec := { name := "fletNoughts", fn := fun _ => fun
  | [d1, d2] => { results := [.lit (.bool true)], args := [d1, d2] }
  | _ => none }
def fletNoughtsRow : OpenClaim := { program := "ytdjbhonncjcbjaa", sum := "07607d9ce47dee2cec9db3ae706d33fc4872730f84604f3bd9b7391b87c13a7e", func := "quickset/quicksetkeep.FletNoughts", spec := "fletNoughts", apart := false }
def FletNoughtsSaid : Prop := fletNoughtsRow.holds Try.pinned (OpenSpec.ofChange fletNoughtsSpec)

/-- ITS FALSE NEIGHBOUR: 'it returns false'. Refute it at one input. -/
def fletNoughtsWrong : ChangeSpec := { name := "fletNoughts", fn := fun _ => fun
  | [d1, d2] => { results := [.lit (.bool false)], args := [d1, d2] }
  | _ => none }
def FletNoughtsWrongFalsely : Prop := fletNoughtsRow.holds Try.pinned (OpenSpec.ofChange fletNoughtsWrong)

/-- 'quicksetkeep.CombBack': WHATEVER THE INPUT: true; the input reads as it did. -/
def combBackSpec : ChangeSpec := { name := "combBack", fn := fun _ => fun
  | [d1, d2] => { results := [.lit (.bool true)], args := [d1, d2] }
  | _ => none }
def combBackRow : OpenClaim := { program := "ytdjbhonncjcbjaa", sum := "07607d9ce47dee2cec9db3ae706d33fc4872730f84604f3bd9b7391b87c13a7e", func := "quickset/quicksetkeep.CombBack", spec := "combBack", apart := false }
def CombBackSaid : Prop := combBackRow.holds Try.pinned (OpenSpec.ofChange combBackSpec)

/-- ITS FALSE NEIGHBOUR: 'it returns false'. Refute it at one input. -/
def combBackWrong : ChangeSpec := { name := "combBack", fn := fun _ => fun
  | [d1, d2] => { results := [.lit (.bool false)], args := [d1, d2] }
  | _ => none }
def CombBackWrongFalsely : Prop := combBackRow.holds Try.pinned (OpenSpec.ofChange combBackWrong)

/-- 'quicksetkeep.ColumnsFill': WHATEVER THE INPUT: true; the input reads as it did. -/
def columnsFillSpec : ChangeSpec := { name := "columnsFill", fn := fun _ => fun
  | [d1, d2, d3, d4] => { results := [.lit (.bool true)], args := [d1, d2, d3, d4] }
  | _ => none }
def columnsFillRow : OpenClaim := { program := "ytdjbhonncjcbjaa", sum := "07607d9ce47dee2cec9db3ae706d33fc4872730f84604f3bd9b7391b87c13a7e", func := "quickset/quicksetkeep.ColumnsFill", spec := "columnsFill", apart := false }
def ColumnsFillSaid : Prop := columnsFillRow.holds Try.pinned (OpenSpec.ofChange columnsFillSpec)

/-- ITS FALSE NEIGHBOUR: 'it returns false'. Refute it at one input. -/
def columnsFillWrong : ChangeSpec := { name := "columnsFill", fn := fun _ => fun
  | [d1, d2, d3, d4] => { results := [.lit (.bool false)], args := [d1, d2, d3, d4] }
  | _ => none }
def ColumnsFillWrongFalsely : Prop := columnsFillRow.holds Try.pinned (OpenSpec.ofChange columnsFillWrong)

/-- 'quicksetkeep.CombAll': WHATEVER THE INPUT: true; the input reads as it did. -/
def combAllSpec : ChangeSpec := { name := "combAll", fn := fun _ => fun
  | [d1, d2] => { results := [.lit (.bool true)], args := [d1, d2] }
  | _ => none }
def combAllRow : OpenClaim := { program := "ytdjbhonncjcbjaa", sum := "07607d9ce47dee2cec9db3ae706d33fc4872730f84604f3bd9b7391b87c13a7e", func := "quickset/quicksetkeep.CombAll", spec := "combAll", unfollowed := true, recurses := true, apart := false }
def CombAllSaid : Prop := combAllRow.holds Try.pinned (OpenSpec.ofChange combAllSpec)

/-- ITS FALSE NEIGHBOUR: 'it returns false'. Refute it at one input. -/
def combAllWrong : ChangeSpec := { name := "combAll", fn := fun _ => fun
  | [d1, d2] => { results := [.lit (.bool false)], args := [d1, d2] }
  | _ => none }
def CombAllWrongFalsely : Prop := combAllRow.holds Try.pinned (OpenSpec.ofChange combAllWrong)

/- THE SECOND FORM. 'bulk': how many values and letters a reading holds, each counted each time it is reached (what is shared counts as often as it is met; a slice's spare places count too). A statement '..UptoSaid' is the law's where the arguments, and the package variables that the reading takes, are together of bulk at most 1048576: NARROWER than '..Said'. Prove '..Said' where nothing that the law and all that it calls make is longer than what came in: it says more and counts as full. Else prove '..UptoSaid'. A law counts once. -/
mutual
def uptoBulk {H : Type} : DataW H → Nat
  | .lit (.string bytes) => bytes.length + 1
  | .lit _ => 1
  | .nil => 1
  | .ptr d => uptoBulk d + 1
  | .slice elems spare => uptoBulkAll elems + uptoBulkAll spare + 1
  | .agg parts => uptoBulkAll parts + 1
  | .iface _ d => uptoBulk d + 1
  | .map entries => uptoBulkEntries entries + 1
  | .held _ => 1
def uptoBulkAll {H : Type} : List (DataW H) → Nat
  | [] => 0
  | d :: r => uptoBulk d + uptoBulkAll r
def uptoBulkEntries {H : Type} : List (Lit × DataW H) → Nat
  | [] => 0
  | x :: r => uptoBulkEntry x + uptoBulkEntries r
def uptoBulkEntry {H : Type} : Lit × DataW H → Nat
  | (.string bytes, d) => bytes.length + uptoBulk d + 1
  | (_, d) => uptoBulk d + 1
 end
def uptoSmall : (H : Type) → List (DataW H) → Bool := fun _ ds => decide (uptoBulkAll ds ≤ 1048576)
def OpenSpec.upto (s : _root_.Go.ChangeSpec) : _root_.Go.OpenSpec := { _root_.Go.OpenSpec.ofChange s with cond := some uptoSmall }

/-- 'quicksetkeep.SpotApart', WHERE WHAT IT READS IS OF BULK AT MOST 1048576: true; the input reads as it did. -/
def spotApartUptoRow : OpenClaim := { program := "ytdjbhonncjcbjaa", sum := "07607d9ce47dee2cec9db3ae706d33fc4872730f84604f3bd9b7391b87c13a7e", func := "quickset/quicksetkeep.SpotApart", spec := "spotApart", apart := false, narrowed := true }
def SpotApartUptoSaid : Prop := spotApartUptoRow.holds Try.pinned (OpenSpec.upto spotApartSpec)

/-- 'quicksetkeep.CostRight', WHERE WHAT IT READS IS OF BULK AT MOST 1048576: true; the input reads as it did. -/
def costRightUptoRow : OpenClaim := { program := "ytdjbhonncjcbjaa", sum := "07607d9ce47dee2cec9db3ae706d33fc4872730f84604f3bd9b7391b87c13a7e", func := "quickset/quicksetkeep.CostRight", spec := "costRight", apart := false, narrowed := true }
def CostRightUptoSaid : Prop := costRightUptoRow.holds Try.pinned (OpenSpec.upto costRightSpec)

/-- 'quicksetkeep.CombPascal', WHERE WHAT IT READS IS OF BULK AT MOST 1048576: true; the input reads as it did. -/
def combPascalUptoRow : OpenClaim := { program := "ytdjbhonncjcbjaa", sum := "07607d9ce47dee2cec9db3ae706d33fc4872730f84604f3bd9b7391b87c13a7e", func := "quickset/quicksetkeep.CombPascal", spec := "combPascal", apart := false, narrowed := true }
def CombPascalUptoSaid : Prop := combPascalUptoRow.holds Try.pinned (OpenSpec.upto combPascalSpec)

/-- 'quicksetkeep.FletChanged', WHERE WHAT IT READS IS OF BULK AT MOST 1048576: true; the input reads as it did. -/
def fletChangedUptoRow : OpenClaim := { program := "ytdjbhonncjcbjaa", sum := "07607d9ce47dee2cec9db3ae706d33fc4872730f84604f3bd9b7391b87c13a7e", func := "quickset/quicksetkeep.FletChanged", spec := "fletChanged", apart := false, narrowed := true }
def FletChangedUptoSaid : Prop := fletChangedUptoRow.holds Try.pinned (OpenSpec.upto fletChangedSpec)

/-- 'quicksetkeep.FletSwapped', WHERE WHAT IT READS IS OF BULK AT MOST 1048576: true; the input reads as it did. -/
def fletSwappedUptoRow : OpenClaim := { program := "ytdjbhonncjcbjaa", sum := "07607d9ce47dee2cec9db3ae706d33fc4872730f84604f3bd9b7391b87c13a7e", func := "quickset/quicksetkeep.FletSwapped", spec := "fletSwapped", apart := false, narrowed := true }
def FletSwappedUptoSaid : Prop := fletSwappedUptoRow.holds Try.pinned (OpenSpec.upto fletSwappedSpec)

/-- 'quicksetkeep.ColumnsApart', WHERE WHAT IT READS IS OF BULK AT MOST 1048576: true; the input reads as it did. -/
def columnsApartUptoRow : OpenClaim := { program := "ytdjbhonncjcbjaa", sum := "07607d9ce47dee2cec9db3ae706d33fc4872730f84604f3bd9b7391b87c13a7e", func := "quickset/quicksetkeep.ColumnsApart", spec := "columnsApart", apart := false, narrowed := true }
def ColumnsApartUptoSaid : Prop := columnsApartUptoRow.holds Try.pinned (OpenSpec.upto columnsApartSpec)

/-- 'quicksetkeep.FletParts', WHERE WHAT IT READS IS OF BULK AT MOST 1048576: true; the input reads as it did. -/
def fletPartsUptoRow : OpenClaim := { program := "ytdjbhonncjcbjaa", sum := "07607d9ce47dee2cec9db3ae706d33fc4872730f84604f3bd9b7391b87c13a7e", func := "quickset/quicksetkeep.FletParts", spec := "fletParts", apart := false, narrowed := true }
def FletPartsUptoSaid : Prop := fletPartsUptoRow.holds Try.pinned (OpenSpec.upto fletPartsSpec)

/-- 'quicksetkeep.FletNoughts', WHERE WHAT IT READS IS OF BULK AT MOST 1048576: true; the input reads as it did. -/
def fletNoughtsUptoRow : OpenClaim := { program := "ytdjbhonncjcbjaa", sum := "07607d9ce47dee2cec9db3ae706d33fc4872730f84604f3bd9b7391b87c13a7e", func := "quickset/quicksetkeep.FletNoughts", spec := "fletNoughts", apart := false, narrowed := true }
def FletNoughtsUptoSaid : Prop := fletNoughtsUptoRow.holds Try.pinned (OpenSpec.upto fletNoughtsSpec)

/-- 'quicksetkeep.CombBack', WHERE WHAT IT READS IS OF BULK AT MOST 1048576: true; the input reads as it did. -/
def combBackUptoRow : OpenClaim := { program := "ytdjbhonncjcbjaa", sum := "07607d9ce47dee2cec9db3ae706d33fc4872730f84604f3bd9b7391b87c13a7e", func := "quickset/quicksetkeep.CombBack", spec := "combBack", apart := false, narrowed := true }
def CombBackUptoSaid : Prop := combBackUptoRow.holds Try.pinned (OpenSpec.upto combBackSpec)

/-- 'quicksetkeep.ColumnsFill', WHERE WHAT IT READS IS OF BULK AT MOST 1048576: true; the input reads as it did. -/
def columnsFillUptoRow : OpenClaim := { program := "ytdjbhonncjcbjaa", sum := "07607d9ce47dee2cec9db3ae706d33fc4872730f84604f3bd9b7391b87c13a7e", func := "quickset/quicksetkeep.ColumnsFill", spec := "columnsFill", apart := false, narrowed := true }
def ColumnsFillUptoSaid : Prop := columnsFillUptoRow.holds Try.pinned (OpenSpec.upto columnsFillSpec)

/-- 'quicksetkeep.CombAll', WHERE WHAT IT READS IS OF BULK AT MOST 1048576: true; the input reads as it did. -/
def combAllUptoRow : OpenClaim := { program := "ytdjbhonncjcbjaa", sum := "07607d9ce47dee2cec9db3ae706d33fc4872730f84604f3bd9b7391b87c13a7e", func := "quickset/quicksetkeep.CombAll", spec := "combAll", unfollowed := true, recurses := true, apart := false, narrowed := true }
def CombAllUptoSaid : Prop := combAllUptoRow.holds Try.pinned (OpenSpec.upto combAllSpec)

end Rows
end Go.Proofs.Ytdjbhonncjcbjaa
