/-
  No cell of these rows narrows 'for every input' (looked for: loops, veiled, ifaces, maps, wideKeys, modest, calm, conditions, laid).
  DERIVED. THE GIVEN ROWS OF THIS SEAT. 12 by the template 'for every input the law returns true; each argument reads behind the call as it read before'; 0 by the template 'total and deterministic' (their statements: YtbekpkapkaifiaaTotals.lean).
  GIVEN WITH THE SEED: the statements are not yours to turn. If you find one false, say at which input.
  Laid BY PROGRAM, IN A SANDBOX (cutbox-rows.mjs): the forced cells as the released guide's own fill.sh prints them over the translation 4fb46e5686316ac0… (all of the seat's roots in one cut). By AI agents, Wed Nov 11 2026. No macro, syntax, notation, axiom, sorry.
-/
import Derived.Test.YtbekpkapkaifiaaChecked
import GoSem.Claim
import GoSem.ClaimJoined
import GoSem.ClaimMapViews
import Derived.JoinedTies
import Derived.KernelRfl
namespace Go.Proofs.Ytbekpkapkaifiaa
/- THE CELL 'sum', in the pinned program and in every row, IS THE sha256 OF THE DUMP (.gsa) THAT YtbekpkapkaifiaaProg.lean LOADS. Nothing in Lean hashes anything: it is a label: what it is worth is what the hold of that sum in a sandbox is worth. -/
noncomputable def Try.pinned : Pinned := { name := "ytbekpkapkaifiaa", sum := "4fb46e5686316ac026fc0aa4cac2e422b13da46f36b1a0c2e3fe531e37b5d7c2", checked := Try.checked }
namespace Rows
def none {H : Type} : Left H := { results := [], args := [] }

/-- 'quicksetkeep.TakeApart': WHATEVER THE INPUT: true; the input reads as it did. -/
def takeApartSpec : ChangeSpec := { name := "takeApart", fn := fun _ => fun
  | [d1, d2] => { results := [.lit (.bool true)], args := [d1, d2] }
  | _ => none }
def takeApartRow : OpenClaim := { program := "ytbekpkapkaifiaa", sum := "4fb46e5686316ac026fc0aa4cac2e422b13da46f36b1a0c2e3fe531e37b5d7c2", func := "quickset/quicksetkeep.TakeApart", spec := "takeApart", unfollowed := true, recurses := true, apart := false }
def TakeApartSaid : Prop := takeApartRow.holds Try.pinned (OpenSpec.ofChange takeApartSpec)

/-- ITS FALSE NEIGHBOUR: 'it returns false'. Refute it at one input. -/
def takeApartWrong : ChangeSpec := { name := "takeApart", fn := fun _ => fun
  | [d1, d2] => { results := [.lit (.bool false)], args := [d1, d2] }
  | _ => none }
def TakeApartWrongFalsely : Prop := takeApartRow.holds Try.pinned (OpenSpec.ofChange takeApartWrong)

/-- 'quicksetkeep.DriveStays': WHATEVER THE INPUT: true; the input reads as it did. -/
def driveStaysSpec : ChangeSpec := { name := "driveStays", fn := fun _ => fun
  | [d1, d2, d3] => { results := [.lit (.bool true)], args := [d1, d2, d3] }
  | _ => none }
def driveStaysRow : OpenClaim := { program := "ytbekpkapkaifiaa", sum := "4fb46e5686316ac026fc0aa4cac2e422b13da46f36b1a0c2e3fe531e37b5d7c2", func := "quickset/quicksetkeep.DriveStays", spec := "driveStays", unfollowed := true, recurses := true, apart := false }
def DriveStaysSaid : Prop := driveStaysRow.holds Try.pinned (OpenSpec.ofChange driveStaysSpec)

/-- ITS FALSE NEIGHBOUR: 'it returns false'. Refute it at one input. -/
def driveStaysWrong : ChangeSpec := { name := "driveStays", fn := fun _ => fun
  | [d1, d2, d3] => { results := [.lit (.bool false)], args := [d1, d2, d3] }
  | _ => none }
def DriveStaysWrongFalsely : Prop := driveStaysRow.holds Try.pinned (OpenSpec.ofChange driveStaysWrong)

/-- 'quicksetkeep.DriveAll': WHATEVER THE INPUT: true; the input reads as it did. -/
def driveAllSpec : ChangeSpec := { name := "driveAll", fn := fun _ => fun
  | [d] => { results := [.lit (.bool true)], args := [d] }
  | _ => none }
def driveAllRow : OpenClaim := { program := "ytbekpkapkaifiaa", sum := "4fb46e5686316ac026fc0aa4cac2e422b13da46f36b1a0c2e3fe531e37b5d7c2", func := "quickset/quicksetkeep.DriveAll", spec := "driveAll", unfollowed := true, recurses := true, apart := false }
def DriveAllSaid : Prop := driveAllRow.holds Try.pinned (OpenSpec.ofChange driveAllSpec)

/-- ITS FALSE NEIGHBOUR: 'it returns false'. Refute it at one input. -/
def driveAllWrong : ChangeSpec := { name := "driveAll", fn := fun _ => fun
  | [d] => { results := [.lit (.bool false)], args := [d] }
  | _ => none }
def DriveAllWrongFalsely : Prop := driveAllRow.holds Try.pinned (OpenSpec.ofChange driveAllWrong)

/-- 'quicksetkeep.DriveLast': WHATEVER THE INPUT: true; the input reads as it did. -/
def driveLastSpec : ChangeSpec := { name := "driveLast", fn := fun _ => fun
  | [d1, d2] => { results := [.lit (.bool true)], args := [d1, d2] }
  | _ => none }
def driveLastRow : OpenClaim := { program := "ytbekpkapkaifiaa", sum := "4fb46e5686316ac026fc0aa4cac2e422b13da46f36b1a0c2e3fe531e37b5d7c2", func := "quickset/quicksetkeep.DriveLast", spec := "driveLast", unfollowed := true, recurses := true, apart := false }
def DriveLastSaid : Prop := driveLastRow.holds Try.pinned (OpenSpec.ofChange driveLastSpec)

/-- ITS FALSE NEIGHBOUR: 'it returns false'. Refute it at one input. -/
def driveLastWrong : ChangeSpec := { name := "driveLast", fn := fun _ => fun
  | [d1, d2] => { results := [.lit (.bool false)], args := [d1, d2] }
  | _ => none }
def DriveLastWrongFalsely : Prop := driveLastRow.holds Try.pinned (OpenSpec.ofChange driveLastWrong)

/-- 'quicksetkeep.DriveDead': WHATEVER THE INPUT: true; the input reads as it did. -/
def driveDeadSpec : ChangeSpec := { name := "driveDead", fn := fun _ => fun
  | [d1, d2, d3] => { results := [.lit (.bool true)], args := [d1, d2, d3] }
  | _ => none }
def driveDeadRow : OpenClaim := { program := "ytbekpkapkaifiaa", sum := "4fb46e5686316ac026fc0aa4cac2e422b13da46f36b1a0c2e3fe531e37b5d7c2", func := "quickset/quicksetkeep.DriveDead", spec := "driveDead", unfollowed := true, recurses := true, apart := false }
def DriveDeadSaid : Prop := driveDeadRow.holds Try.pinned (OpenSpec.ofChange driveDeadSpec)

/-- ITS FALSE NEIGHBOUR: 'it returns false'. Refute it at one input. -/
def driveDeadWrong : ChangeSpec := { name := "driveDead", fn := fun _ => fun
  | [d1, d2, d3] => { results := [.lit (.bool false)], args := [d1, d2, d3] }
  | _ => none }
def DriveDeadWrongFalsely : Prop := driveDeadRow.holds Try.pinned (OpenSpec.ofChange driveDeadWrong)

/-- 'quicksetkeep.LabelBack': WHATEVER THE INPUT: true; the input reads as it did. -/
def labelBackSpec : ChangeSpec := { name := "labelBack", fn := fun _ => fun
  | [d] => { results := [.lit (.bool true)], args := [d] }
  | _ => none }
def labelBackRow : OpenClaim := { program := "ytbekpkapkaifiaa", sum := "4fb46e5686316ac026fc0aa4cac2e422b13da46f36b1a0c2e3fe531e37b5d7c2", func := "quickset/quicksetkeep.LabelBack", spec := "labelBack", apart := false }
def LabelBackSaid : Prop := labelBackRow.holds Try.pinned (OpenSpec.ofChange labelBackSpec)

/-- ITS FALSE NEIGHBOUR: 'it returns false'. Refute it at one input. -/
def labelBackWrong : ChangeSpec := { name := "labelBack", fn := fun _ => fun
  | [d] => { results := [.lit (.bool false)], args := [d] }
  | _ => none }
def LabelBackWrongFalsely : Prop := labelBackRow.holds Try.pinned (OpenSpec.ofChange labelBackWrong)

/-- 'quicksetkeep.LabelFixed': WHATEVER THE INPUT: true; the input reads as it did. -/
def labelFixedSpec : ChangeSpec := { name := "labelFixed", fn := fun _ => fun
  | [d] => { results := [.lit (.bool true)], args := [d] }
  | _ => none }
def labelFixedRow : OpenClaim := { program := "ytbekpkapkaifiaa", sum := "4fb46e5686316ac026fc0aa4cac2e422b13da46f36b1a0c2e3fe531e37b5d7c2", func := "quickset/quicksetkeep.LabelFixed", spec := "labelFixed", apart := false }
def LabelFixedSaid : Prop := labelFixedRow.holds Try.pinned (OpenSpec.ofChange labelFixedSpec)

/-- ITS FALSE NEIGHBOUR: 'it returns false'. Refute it at one input. -/
def labelFixedWrong : ChangeSpec := { name := "labelFixed", fn := fun _ => fun
  | [d] => { results := [.lit (.bool false)], args := [d] }
  | _ => none }
def LabelFixedWrongFalsely : Prop := labelFixedRow.holds Try.pinned (OpenSpec.ofChange labelFixedWrong)

/-- 'quicksetkeep.LabelTouched': WHATEVER THE INPUT: true; the input reads as it did. -/
def labelTouchedSpec : ChangeSpec := { name := "labelTouched", fn := fun _ => fun
  | [d1, d2, d3] => { results := [.lit (.bool true)], args := [d1, d2, d3] }
  | _ => none }
def labelTouchedRow : OpenClaim := { program := "ytbekpkapkaifiaa", sum := "4fb46e5686316ac026fc0aa4cac2e422b13da46f36b1a0c2e3fe531e37b5d7c2", func := "quickset/quicksetkeep.LabelTouched", spec := "labelTouched", apart := false }
def LabelTouchedSaid : Prop := labelTouchedRow.holds Try.pinned (OpenSpec.ofChange labelTouchedSpec)

/-- ITS FALSE NEIGHBOUR: 'it returns false'. Refute it at one input. -/
def labelTouchedWrong : ChangeSpec := { name := "labelTouched", fn := fun _ => fun
  | [d1, d2, d3] => { results := [.lit (.bool false)], args := [d1, d2, d3] }
  | _ => none }
def LabelTouchedWrongFalsely : Prop := labelTouchedRow.holds Try.pinned (OpenSpec.ofChange labelTouchedWrong)

/-- 'quicksetkeep.BestNewest': WHATEVER THE INPUT: true; the input reads as it did. -/
def bestNewestSpec : ChangeSpec := { name := "bestNewest", fn := fun _ => fun
  | [d1, d2, d3] => { results := [.lit (.bool true)], args := [d1, d2, d3] }
  | _ => none }
def bestNewestRow : OpenClaim := { program := "ytbekpkapkaifiaa", sum := "4fb46e5686316ac026fc0aa4cac2e422b13da46f36b1a0c2e3fe531e37b5d7c2", func := "quickset/quicksetkeep.BestNewest", spec := "bestNewest", apart := false }
def BestNewestSaid : Prop := bestNewestRow.holds Try.pinned (OpenSpec.ofChange bestNewestSpec)

/-- ITS FALSE NEIGHBOUR: 'it returns false'. Refute it at one input. -/
def bestNewestWrong : ChangeSpec := { name := "bestNewest", fn := fun _ => fun
  | [d1, d2, d3] => { results := [.lit (.bool false)], args := [d1, d2, d3] }
  | _ => none }
def BestNewestWrongFalsely : Prop := bestNewestRow.holds Try.pinned (OpenSpec.ofChange bestNewestWrong)

/-- 'quicksetkeep.GiveBack': WHATEVER THE INPUT: true; the input reads as it did. -/
def giveBackSpec : ChangeSpec := { name := "giveBack", fn := fun _ => fun
  | [d1, d2] => { results := [.lit (.bool true)], args := [d1, d2] }
  | _ => none }
def giveBackRow : OpenClaim := { program := "ytbekpkapkaifiaa", sum := "4fb46e5686316ac026fc0aa4cac2e422b13da46f36b1a0c2e3fe531e37b5d7c2", func := "quickset/quicksetkeep.GiveBack", spec := "giveBack", unfollowed := true, recurses := true, apart := false }
def GiveBackSaid : Prop := giveBackRow.holds Try.pinned (OpenSpec.ofChange giveBackSpec)

/-- ITS FALSE NEIGHBOUR: 'it returns false'. Refute it at one input. -/
def giveBackWrong : ChangeSpec := { name := "giveBack", fn := fun _ => fun
  | [d1, d2] => { results := [.lit (.bool false)], args := [d1, d2] }
  | _ => none }
def GiveBackWrongFalsely : Prop := giveBackRow.holds Try.pinned (OpenSpec.ofChange giveBackWrong)

/-- 'quicksetkeep.TakeLeast': WHATEVER THE INPUT: true; the input reads as it did. -/
def takeLeastSpec : ChangeSpec := { name := "takeLeast", fn := fun _ => fun
  | [d1, d2, d3] => { results := [.lit (.bool true)], args := [d1, d2, d3] }
  | _ => none }
def takeLeastRow : OpenClaim := { program := "ytbekpkapkaifiaa", sum := "4fb46e5686316ac026fc0aa4cac2e422b13da46f36b1a0c2e3fe531e37b5d7c2", func := "quickset/quicksetkeep.TakeLeast", spec := "takeLeast", unfollowed := true, recurses := true, apart := false }
def TakeLeastSaid : Prop := takeLeastRow.holds Try.pinned (OpenSpec.ofChange takeLeastSpec)

/-- ITS FALSE NEIGHBOUR: 'it returns false'. Refute it at one input. -/
def takeLeastWrong : ChangeSpec := { name := "takeLeast", fn := fun _ => fun
  | [d1, d2, d3] => { results := [.lit (.bool false)], args := [d1, d2, d3] }
  | _ => none }
def TakeLeastWrongFalsely : Prop := takeLeastRow.holds Try.pinned (OpenSpec.ofChange takeLeastWrong)

/-- 'quicksetkeep.ReplaySame': WHATEVER THE INPUT: true; the input reads as it did. -/
def replaySameSpec : ChangeSpec := { name := "replaySame", fn := fun _ => fun
  | [d1, d2] => { results := [.lit (.bool true)], args := [d1, d2] }
  | _ => none }
def replaySameRow : OpenClaim := { program := "ytbekpkapkaifiaa", sum := "4fb46e5686316ac026fc0aa4cac2e422b13da46f36b1a0c2e3fe531e37b5d7c2", func := "quickset/quicksetkeep.ReplaySame", spec := "replaySame", unfollowed := true, recurses := true, apart := false }
def ReplaySameSaid : Prop := replaySameRow.holds Try.pinned (OpenSpec.ofChange replaySameSpec)

/-- ITS FALSE NEIGHBOUR: 'it returns false'. Refute it at one input. -/
def replaySameWrong : ChangeSpec := { name := "replaySame", fn := fun _ => fun
  | [d1, d2] => { results := [.lit (.bool false)], args := [d1, d2] }
  | _ => none }
def ReplaySameWrongFalsely : Prop := replaySameRow.holds Try.pinned (OpenSpec.ofChange replaySameWrong)

/- THE SECOND FORM. 'bulk': how many values and letters a reading holds, each counted each time it is reached (what is shared counts as often as it is met; a slice's spare places count too). A statement '..UptoSaid' is the law's where the arguments, and the package variables that the reading takes, are together of bulk at most 1048576: NARROWER than '..Said'. Prove '..Said' where nothing that the law and all that it calls make is longer than what came in: it says more and counts as full. Else prove '..UptoSaid'. A law counts once. -/
mutual
def uptoBulk {H : Type} : DataW H → Nat
  | .lit (.string bytes) => bytes.length + 1
  | .lit _ => 1
  | .nil => 1
  | .ptr d => uptoBulk d + 1
  | .slice elems spare => uptoBulkAll elems + uptoBulkAll spare + 1
  | .agg parts => uptoBulkAll parts + 1
  | .iface _ d => uptoBulk d + 1
  | .map entries => uptoBulkEntries entries + 1
  | .held _ => 1
def uptoBulkAll {H : Type} : List (DataW H) → Nat
  | [] => 0
  | d :: r => uptoBulk d + uptoBulkAll r
def uptoBulkEntries {H : Type} : List (Lit × DataW H) → Nat
  | [] => 0
  | x :: r => uptoBulkEntry x + uptoBulkEntries r
def uptoBulkEntry {H : Type} : Lit × DataW H → Nat
  | (.string bytes, d) => bytes.length + uptoBulk d + 1
  | (_, d) => uptoBulk d + 1
 end
def uptoSmall : (H : Type) → List (DataW H) → Bool := fun _ ds => decide (uptoBulkAll ds ≤ 1048576)
def OpenSpec.upto (s : _root_.Go.ChangeSpec) : _root_.Go.OpenSpec := { _root_.Go.OpenSpec.ofChange s with cond := some uptoSmall }

/-- 'quicksetkeep.TakeApart', WHERE WHAT IT READS IS OF BULK AT MOST 1048576: true; the input reads as it did. -/
def takeApartUptoRow : OpenClaim := { program := "ytbekpkapkaifiaa", sum := "4fb46e5686316ac026fc0aa4cac2e422b13da46f36b1a0c2e3fe531e37b5d7c2", func := "quickset/quicksetkeep.TakeApart", spec := "takeApart", unfollowed := true, recurses := true, apart := false, narrowed := true }
def TakeApartUptoSaid : Prop := takeApartUptoRow.holds Try.pinned (OpenSpec.upto takeApartSpec)

/-- 'quicksetkeep.DriveStays', WHERE WHAT IT READS IS OF BULK AT MOST 1048576: true; the input reads as it did. -/
def driveStaysUptoRow : OpenClaim := { program := "ytbekpkapkaifiaa", sum := "4fb46e5686316ac026fc0aa4cac2e422b13da46f36b1a0c2e3fe531e37b5d7c2", func := "quickset/quicksetkeep.DriveStays", spec := "driveStays", unfollowed := true, recurses := true, apart := false, narrowed := true }
def DriveStaysUptoSaid : Prop := driveStaysUptoRow.holds Try.pinned (OpenSpec.upto driveStaysSpec)

/-- 'quicksetkeep.DriveAll', WHERE WHAT IT READS IS OF BULK AT MOST 1048576: true; the input reads as it did. -/
def driveAllUptoRow : OpenClaim := { program := "ytbekpkapkaifiaa", sum := "4fb46e5686316ac026fc0aa4cac2e422b13da46f36b1a0c2e3fe531e37b5d7c2", func := "quickset/quicksetkeep.DriveAll", spec := "driveAll", unfollowed := true, recurses := true, apart := false, narrowed := true }
def DriveAllUptoSaid : Prop := driveAllUptoRow.holds Try.pinned (OpenSpec.upto driveAllSpec)

/-- 'quicksetkeep.DriveLast', WHERE WHAT IT READS IS OF BULK AT MOST 1048576: true; the input reads as it did. -/
def driveLastUptoRow : OpenClaim := { program := "ytbekpkapkaifiaa", sum := "4fb46e5686316ac026fc0aa4cac2e422b13da46f36b1a0c2e3fe531e37b5d7c2", func := "quickset/quicksetkeep.DriveLast", spec := "driveLast", unfollowed := true, recurses := true, apart := false, narrowed := true }
def DriveLastUptoSaid : Prop := driveLastUptoRow.holds Try.pinned (OpenSpec.upto driveLastSpec)

/-- 'quicksetkeep.DriveDead', WHERE WHAT IT READS IS OF BULK AT MOST 1048576: true; the input reads as it did. -/
def driveDeadUptoRow : OpenClaim := { program := "ytbekpkapkaifiaa", sum := "4fb46e5686316ac026fc0aa4cac2e422b13da46f36b1a0c2e3fe531e37b5d7c2", func := "quickset/quicksetkeep.DriveDead", spec := "driveDead", unfollowed := true, recurses := true, apart := false, narrowed := true }
def DriveDeadUptoSaid : Prop := driveDeadUptoRow.holds Try.pinned (OpenSpec.upto driveDeadSpec)

/-- 'quicksetkeep.LabelBack', WHERE WHAT IT READS IS OF BULK AT MOST 1048576: true; the input reads as it did. -/
def labelBackUptoRow : OpenClaim := { program := "ytbekpkapkaifiaa", sum := "4fb46e5686316ac026fc0aa4cac2e422b13da46f36b1a0c2e3fe531e37b5d7c2", func := "quickset/quicksetkeep.LabelBack", spec := "labelBack", apart := false, narrowed := true }
def LabelBackUptoSaid : Prop := labelBackUptoRow.holds Try.pinned (OpenSpec.upto labelBackSpec)

/-- 'quicksetkeep.LabelFixed', WHERE WHAT IT READS IS OF BULK AT MOST 1048576: true; the input reads as it did. -/
def labelFixedUptoRow : OpenClaim := { program := "ytbekpkapkaifiaa", sum := "4fb46e5686316ac026fc0aa4cac2e422b13da46f36b1a0c2e3fe531e37b5d7c2", func := "quickset/quicksetkeep.LabelFixed", spec := "labelFixed", apart := false, narrowed := true }
def LabelFixedUptoSaid : Prop := labelFixedUptoRow.holds Try.pinned (OpenSpec.upto labelFixedSpec)

/-- 'quicksetkeep.LabelTouched', WHERE WHAT IT READS IS OF BULK AT MOST 1048576: true; the input reads as it did. -/
def labelTouchedUptoRow : OpenClaim := { program := "ytbekpkapkaifiaa", sum := "4fb46e5686316ac026fc0aa4cac2e422b13da46f36b1a0c2e3fe531e37b5d7c2", func := "quickset/quicksetkeep.LabelTouched", spec := "labelTouched", apart := false, narrowed := true }
def LabelTouchedUptoSaid : Prop := labelTouchedUptoRow.holds Try.pinned (OpenSpec.upto labelTouchedSpec)

/-- 'quicksetkeep.BestNewest', WHERE WHAT IT READS IS OF BULK AT MOST 1048576: true; the input reads as it did. -/
def bestNewestUptoRow : OpenClaim := { program := "ytbekpkapkaifiaa", sum := "4fb46e5686316ac026fc0aa4cac2e422b13da46f36b1a0c2e3fe531e37b5d7c2", func := "quickset/quicksetkeep.BestNewest", spec := "bestNewest", apart := false, narrowed := true }
def BestNewestUptoSaid : Prop := bestNewestUptoRow.holds Try.pinned (OpenSpec.upto bestNewestSpec)

/-- 'quicksetkeep.GiveBack', WHERE WHAT IT READS IS OF BULK AT MOST 1048576: true; the input reads as it did. -/
def giveBackUptoRow : OpenClaim := { program := "ytbekpkapkaifiaa", sum := "4fb46e5686316ac026fc0aa4cac2e422b13da46f36b1a0c2e3fe531e37b5d7c2", func := "quickset/quicksetkeep.GiveBack", spec := "giveBack", unfollowed := true, recurses := true, apart := false, narrowed := true }
def GiveBackUptoSaid : Prop := giveBackUptoRow.holds Try.pinned (OpenSpec.upto giveBackSpec)

/-- 'quicksetkeep.TakeLeast', WHERE WHAT IT READS IS OF BULK AT MOST 1048576: true; the input reads as it did. -/
def takeLeastUptoRow : OpenClaim := { program := "ytbekpkapkaifiaa", sum := "4fb46e5686316ac026fc0aa4cac2e422b13da46f36b1a0c2e3fe531e37b5d7c2", func := "quickset/quicksetkeep.TakeLeast", spec := "takeLeast", unfollowed := true, recurses := true, apart := false, narrowed := true }
def TakeLeastUptoSaid : Prop := takeLeastUptoRow.holds Try.pinned (OpenSpec.upto takeLeastSpec)

/-- 'quicksetkeep.ReplaySame', WHERE WHAT IT READS IS OF BULK AT MOST 1048576: true; the input reads as it did. -/
def replaySameUptoRow : OpenClaim := { program := "ytbekpkapkaifiaa", sum := "4fb46e5686316ac026fc0aa4cac2e422b13da46f36b1a0c2e3fe531e37b5d7c2", func := "quickset/quicksetkeep.ReplaySame", spec := "replaySame", unfollowed := true, recurses := true, apart := false, narrowed := true }
def ReplaySameUptoSaid : Prop := replaySameUptoRow.holds Try.pinned (OpenSpec.upto replaySameSpec)

end Rows
end Go.Proofs.Ytbekpkapkaifiaa
