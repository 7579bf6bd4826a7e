/-
  No cell of these rows narrows 'for every input' (looked for: loops, veiled, ifaces, maps, wideKeys, modest, calm, conditions, laid).
  DERIVED. THE GIVEN ROWS OF THIS SEAT. 4 by the template 'for every input the law returns true; each argument reads behind the call as it read before'; 0 by the template 'total and deterministic' (their statements: YtncmdbpoceilgaaTotals.lean).
  GIVEN WITH THE SEED: the statements are not yours to turn. If you find one false, say at which input.
  Laid BY PROGRAM, IN A SANDBOX (cutbox-rows.mjs): the forced cells as the released guide's own fill.sh prints them over the translation c10ffcbac67d377b… (all of the seat's roots in one cut). By AI agents, Wed Nov 11 2026. No macro, syntax, notation, axiom, sorry.
-/
import Derived.Test.YtncmdbpoceilgaaChecked
import GoSem.Claim
import GoSem.ClaimJoined
import GoSem.ClaimMapViews
import Derived.JoinedTies
import Derived.KernelRfl
namespace Go.Proofs.Ytncmdbpoceilgaa
/- THE CELL 'sum', in the pinned program and in every row, IS THE sha256 OF THE DUMP (.gsa) THAT YtncmdbpoceilgaaProg.lean LOADS. Nothing in Lean hashes anything: it is a label: what it is worth is what the hold of that sum in a sandbox is worth. -/
noncomputable def Try.pinned : Pinned := { name := "ytncmdbpoceilgaa", sum := "c10ffcbac67d377bdd25e97ff35fd5313304ca5eb061019fd25a3223fb56b4eb", checked := Try.checked }
namespace Rows
def none {H : Type} : Left H := { results := [], args := [] }

/-- 'quicksetkeep.PoolSnaps': WHATEVER THE INPUT: true; the input reads as it did. -/
def poolSnapsSpec : ChangeSpec := { name := "poolSnaps", fn := fun _ => fun
  | [d1, d2, d3] => { results := [.lit (.bool true)], args := [d1, d2, d3] }
  | _ => none }
def poolSnapsRow : OpenClaim := { program := "ytncmdbpoceilgaa", sum := "c10ffcbac67d377bdd25e97ff35fd5313304ca5eb061019fd25a3223fb56b4eb", func := "quickset/quicksetkeep.PoolSnaps", spec := "poolSnaps", inPlace := ["maps.clone"], unfollowed := true, recurses := true, apart := false }
def PoolSnapsSaid : Prop := poolSnapsRow.holds Try.pinned (OpenSpec.ofChange poolSnapsSpec)

/-- ITS FALSE NEIGHBOUR: 'it returns false'. Refute it at one input. -/
def poolSnapsWrong : ChangeSpec := { name := "poolSnaps", fn := fun _ => fun
  | [d1, d2, d3] => { results := [.lit (.bool false)], args := [d1, d2, d3] }
  | _ => none }
def PoolSnapsWrongFalsely : Prop := poolSnapsRow.holds Try.pinned (OpenSpec.ofChange poolSnapsWrong)

/-- 'quicksetkeep.PoolBack': WHATEVER THE INPUT: true; the input reads as it did. -/
def poolBackSpec : ChangeSpec := { name := "poolBack", fn := fun _ => fun
  | [d1, d2, d3] => { results := [.lit (.bool true)], args := [d1, d2, d3] }
  | _ => none }
def poolBackRow : OpenClaim := { program := "ytncmdbpoceilgaa", sum := "c10ffcbac67d377bdd25e97ff35fd5313304ca5eb061019fd25a3223fb56b4eb", func := "quickset/quicksetkeep.PoolBack", spec := "poolBack", inPlace := ["maps.clone"], unfollowed := true, recurses := true, apart := false }
def PoolBackSaid : Prop := poolBackRow.holds Try.pinned (OpenSpec.ofChange poolBackSpec)

/-- ITS FALSE NEIGHBOUR: 'it returns false'. Refute it at one input. -/
def poolBackWrong : ChangeSpec := { name := "poolBack", fn := fun _ => fun
  | [d1, d2, d3] => { results := [.lit (.bool false)], args := [d1, d2, d3] }
  | _ => none }
def PoolBackWrongFalsely : Prop := poolBackRow.holds Try.pinned (OpenSpec.ofChange poolBackWrong)

/-- 'quicksetkeep.PoolStores': WHATEVER THE INPUT: true; the input reads as it did. -/
def poolStoresSpec : ChangeSpec := { name := "poolStores", fn := fun _ => fun
  | [d1, d2, d3, d4] => { results := [.lit (.bool true)], args := [d1, d2, d3, d4] }
  | _ => none }
def poolStoresRow : OpenClaim := { program := "ytncmdbpoceilgaa", sum := "c10ffcbac67d377bdd25e97ff35fd5313304ca5eb061019fd25a3223fb56b4eb", func := "quickset/quicksetkeep.PoolStores", spec := "poolStores", inPlace := ["maps.clone"], unfollowed := true, recurses := true, apart := false }
def PoolStoresSaid : Prop := poolStoresRow.holds Try.pinned (OpenSpec.ofChange poolStoresSpec)

/-- ITS FALSE NEIGHBOUR: 'it returns false'. Refute it at one input. -/
def poolStoresWrong : ChangeSpec := { name := "poolStores", fn := fun _ => fun
  | [d1, d2, d3, d4] => { results := [.lit (.bool false)], args := [d1, d2, d3, d4] }
  | _ => none }
def PoolStoresWrongFalsely : Prop := poolStoresRow.holds Try.pinned (OpenSpec.ofChange poolStoresWrong)

/-- 'quicksetkeep.PoolRefused': WHATEVER THE INPUT: true; the input reads as it did. -/
def poolRefusedSpec : ChangeSpec := { name := "poolRefused", fn := fun _ => fun
  | [d] => { results := [.lit (.bool true)], args := [d] }
  | _ => none }
def poolRefusedRow : OpenClaim := { program := "ytncmdbpoceilgaa", sum := "c10ffcbac67d377bdd25e97ff35fd5313304ca5eb061019fd25a3223fb56b4eb", func := "quickset/quicksetkeep.PoolRefused", spec := "poolRefused", inPlace := ["maps.clone"], unfollowed := true, recurses := true, apart := false }
def PoolRefusedSaid : Prop := poolRefusedRow.holds Try.pinned (OpenSpec.ofChange poolRefusedSpec)

/-- ITS FALSE NEIGHBOUR: 'it returns false'. Refute it at one input. -/
def poolRefusedWrong : ChangeSpec := { name := "poolRefused", fn := fun _ => fun
  | [d] => { results := [.lit (.bool false)], args := [d] }
  | _ => none }
def PoolRefusedWrongFalsely : Prop := poolRefusedRow.holds Try.pinned (OpenSpec.ofChange poolRefusedWrong)

/- THE SECOND FORM. 'bulk': how many values and letters a reading holds, each counted each time it is reached (what is shared counts as often as it is met; a slice's spare places count too). A statement '..UptoSaid' is the law's where the arguments, and the package variables that the reading takes, are together of bulk at most 1048576: NARROWER than '..Said'. Prove '..Said' where nothing that the law and all that it calls make is longer than what came in: it says more and counts as full. Else prove '..UptoSaid'. A law counts once. -/
mutual
def uptoBulk {H : Type} : DataW H → Nat
  | .lit (.string bytes) => bytes.length + 1
  | .lit _ => 1
  | .nil => 1
  | .ptr d => uptoBulk d + 1
  | .slice elems spare => uptoBulkAll elems + uptoBulkAll spare + 1
  | .agg parts => uptoBulkAll parts + 1
  | .iface _ d => uptoBulk d + 1
  | .map entries => uptoBulkEntries entries + 1
  | .held _ => 1
def uptoBulkAll {H : Type} : List (DataW H) → Nat
  | [] => 0
  | d :: r => uptoBulk d + uptoBulkAll r
def uptoBulkEntries {H : Type} : List (Lit × DataW H) → Nat
  | [] => 0
  | x :: r => uptoBulkEntry x + uptoBulkEntries r
def uptoBulkEntry {H : Type} : Lit × DataW H → Nat
  | (.string bytes, d) => bytes.length + uptoBulk d + 1
  | (_, d) => uptoBulk d + 1
 end
def uptoSmall : (H : Type) → List (DataW H) → Bool := fun _ ds => decide (uptoBulkAll ds ≤ 1048576)
def OpenSpec.upto (s : _root_.Go.ChangeSpec) : _root_.Go.OpenSpec := { _root_.Go.OpenSpec.ofChange s with cond := some uptoSmall }

/-- 'quicksetkeep.PoolSnaps', WHERE WHAT IT READS IS OF BULK AT MOST 1048576: true; the input reads as it did. -/
def poolSnapsUptoRow : OpenClaim := { program := "ytncmdbpoceilgaa", sum := "c10ffcbac67d377bdd25e97ff35fd5313304ca5eb061019fd25a3223fb56b4eb", func := "quickset/quicksetkeep.PoolSnaps", spec := "poolSnaps", inPlace := ["maps.clone"], unfollowed := true, recurses := true, apart := false, narrowed := true }
def PoolSnapsUptoSaid : Prop := poolSnapsUptoRow.holds Try.pinned (OpenSpec.upto poolSnapsSpec)

/-- 'quicksetkeep.PoolBack', WHERE WHAT IT READS IS OF BULK AT MOST 1048576: true; the input reads as it did. -/
def poolBackUptoRow : OpenClaim := { program := "ytncmdbpoceilgaa", sum := "c10ffcbac67d377bdd25e97ff35fd5313304ca5eb061019fd25a3223fb56b4eb", func := "quickset/quicksetkeep.PoolBack", spec := "poolBack", inPlace := ["maps.clone"], unfollowed := true, recurses := true, apart := false, narrowed := true }
def PoolBackUptoSaid : Prop := poolBackUptoRow.holds Try.pinned (OpenSpec.upto poolBackSpec)

/-- 'quicksetkeep.PoolStores', WHERE WHAT IT READS IS OF BULK AT MOST 1048576: true; the input reads as it did. -/
def poolStoresUptoRow : OpenClaim := { program := "ytncmdbpoceilgaa", sum := "c10ffcbac67d377bdd25e97ff35fd5313304ca5eb061019fd25a3223fb56b4eb", func := "quickset/quicksetkeep.PoolStores", spec := "poolStores", inPlace := ["maps.clone"], unfollowed := true, recurses := true, apart := false, narrowed := true }
def PoolStoresUptoSaid : Prop := poolStoresUptoRow.holds Try.pinned (OpenSpec.upto poolStoresSpec)

/-- 'quicksetkeep.PoolRefused', WHERE WHAT IT READS IS OF BULK AT MOST 1048576: true; the input reads as it did. -/
def poolRefusedUptoRow : OpenClaim := { program := "ytncmdbpoceilgaa", sum := "c10ffcbac67d377bdd25e97ff35fd5313304ca5eb061019fd25a3223fb56b4eb", func := "quickset/quicksetkeep.PoolRefused", spec := "poolRefused", inPlace := ["maps.clone"], unfollowed := true, recurses := true, apart := false, narrowed := true }
def PoolRefusedUptoSaid : Prop := poolRefusedUptoRow.holds Try.pinned (OpenSpec.upto poolRefusedSpec)

end Rows
end Go.Proofs.Ytncmdbpoceilgaa
