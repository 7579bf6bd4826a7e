/-
  No cell of these rows narrows 'for every input' (looked for: loops, veiled, ifaces, maps, wideKeys, modest, calm, conditions, laid).
  DERIVED. THE GIVEN ROWS OF THIS SEAT. 4 by the template 'for every input the law returns true; each argument reads behind the call as it read before'; 0 by the template 'total and deterministic' (their statements: YtkidbgfegnmhdaaTotals.lean).
  GIVEN WITH THE SEED: the statements are not yours to turn. If you find one false, say at which input.
  Laid BY PROGRAM, IN A SANDBOX (cutbox-rows.mjs): the forced cells as the released guide's own fill.sh prints them over the translation ffa411377d4dfac7… (all of the seat's roots in one cut). By AI agents, Wed Nov 11 2026. No macro, syntax, notation, axiom, sorry.
-/
import Derived.Test.YtkidbgfegnmhdaaChecked
import GoSem.Claim
import GoSem.ClaimJoined
import GoSem.ClaimMapViews
import Derived.JoinedTies
import Derived.KernelRfl
namespace Go.Proofs.Ytkidbgfegnmhdaa
/- THE CELL 'sum', in the pinned program and in every row, IS THE sha256 OF THE DUMP (.gsa) THAT YtkidbgfegnmhdaaProg.lean LOADS. Nothing in Lean hashes anything: it is a label: what it is worth is what the hold of that sum in a sandbox is worth. -/
noncomputable def Try.pinned : Pinned := { name := "ytkidbgfegnmhdaa", sum := "ffa411377d4dfac7643068d09828f9701b812054577cb1c4c090b897e7b3c27a", checked := Try.checked }
namespace Rows
def none {H : Type} : Left H := { results := [], args := [] }

/-- 'quicksetkeep.LabelBack': WHATEVER THE INPUT: true; the input reads as it did. -/
def labelBackSpec : ChangeSpec := { name := "labelBack", fn := fun _ => fun
  | [d] => { results := [.lit (.bool true)], args := [d] }
  | _ => none }
def labelBackRow : OpenClaim := { program := "ytkidbgfegnmhdaa", sum := "ffa411377d4dfac7643068d09828f9701b812054577cb1c4c090b897e7b3c27a", func := "quickset/quicksetkeep.LabelBack", spec := "labelBack", apart := false }
def LabelBackSaid : Prop := labelBackRow.holds Try.pinned (OpenSpec.ofChange labelBackSpec)

/-- ITS FALSE NEIGHBOUR: 'it returns false'. Refute it at one input. -/
def labelBackWrong : ChangeSpec := { name := "labelBack", fn := fun _ => fun
  | [d] => { results := [.lit (.bool false)], args := [d] }
  | _ => none }
def LabelBackWrongFalsely : Prop := labelBackRow.holds Try.pinned (OpenSpec.ofChange labelBackWrong)

/-- 'quicksetkeep.LabelFixed': WHATEVER THE INPUT: true; the input reads as it did. -/
def labelFixedSpec : ChangeSpec := { name := "labelFixed", fn := fun _ => fun
  | [d] => { results := [.lit (.bool true)], args := [d] }
  | _ => none }
def labelFixedRow : OpenClaim := { program := "ytkidbgfegnmhdaa", sum := "ffa411377d4dfac7643068d09828f9701b812054577cb1c4c090b897e7b3c27a", func := "quickset/quicksetkeep.LabelFixed", spec := "labelFixed", apart := false }
def LabelFixedSaid : Prop := labelFixedRow.holds Try.pinned (OpenSpec.ofChange labelFixedSpec)

/-- ITS FALSE NEIGHBOUR: 'it returns false'. Refute it at one input. -/
def labelFixedWrong : ChangeSpec := { name := "labelFixed", fn := fun _ => fun
  | [d] => { results := [.lit (.bool false)], args := [d] }
  | _ => none }
def LabelFixedWrongFalsely : Prop := labelFixedRow.holds Try.pinned (OpenSpec.ofChange labelFixedWrong)

/-- 'quicksetkeep.LabelTouched': WHATEVER THE INPUT: true; the input reads as it did. -/
def labelTouchedSpec : ChangeSpec := { name := "labelTouched", fn := fun _ => fun
  | [d1, d2, d3] => { results := [.lit (.bool true)], args := [d1, d2, d3] }
  | _ => none }
def labelTouchedRow : OpenClaim := { program := "ytkidbgfegnmhdaa", sum := "ffa411377d4dfac7643068d09828f9701b812054577cb1c4c090b897e7b3c27a", func := "quickset/quicksetkeep.LabelTouched", spec := "labelTouched", apart := false }
def LabelTouchedSaid : Prop := labelTouchedRow.holds Try.pinned (OpenSpec.ofChange labelTouchedSpec)

/-- ITS FALSE NEIGHBOUR: 'it returns false'. Refute it at one input. -/
def labelTouchedWrong : ChangeSpec := { name := "labelTouched", fn := fun _ => fun
  | [d1, d2, d3] => { results := [.lit (.bool false)], args := [d1, d2, d3] }
  | _ => none }
def LabelTouchedWrongFalsely : Prop := labelTouchedRow.holds Try.pinned (OpenSpec.ofChange labelTouchedWrong)

/-- 'quicksetkeep.BestNewest': WHATEVER THE INPUT: true; the input reads as it did. -/
def bestNewestSpec : ChangeSpec := { name := "bestNewest", fn := fun _ => fun
  | [d1, d2, d3] => { results := [.lit (.bool true)], args := [d1, d2, d3] }
  | _ => none }
def bestNewestRow : OpenClaim := { program := "ytkidbgfegnmhdaa", sum := "ffa411377d4dfac7643068d09828f9701b812054577cb1c4c090b897e7b3c27a", func := "quickset/quicksetkeep.BestNewest", spec := "bestNewest", apart := false }
def BestNewestSaid : Prop := bestNewestRow.holds Try.pinned (OpenSpec.ofChange bestNewestSpec)

/-- ITS FALSE NEIGHBOUR: 'it returns false'. Refute it at one input. -/
def bestNewestWrong : ChangeSpec := { name := "bestNewest", fn := fun _ => fun
  | [d1, d2, d3] => { results := [.lit (.bool false)], args := [d1, d2, d3] }
  | _ => none }
def BestNewestWrongFalsely : Prop := bestNewestRow.holds Try.pinned (OpenSpec.ofChange bestNewestWrong)

/- THE SECOND FORM. 'bulk': how many values and letters a reading holds, each counted each time it is reached (what is shared counts as often as it is met; a slice's spare places count too). A statement '..UptoSaid' is the law's where the arguments, and the package variables that the reading takes, are together of bulk at most 1048576: NARROWER than '..Said'. Prove '..Said' where nothing that the law and all that it calls make is longer than what came in: it says more and counts as full. Else prove '..UptoSaid'. A law counts once. -/
mutual
def uptoBulk {H : Type} : DataW H → Nat
  | .lit (.string bytes) => bytes.length + 1
  | .lit _ => 1
  | .nil => 1
  | .ptr d => uptoBulk d + 1
  | .slice elems spare => uptoBulkAll elems + uptoBulkAll spare + 1
  | .agg parts => uptoBulkAll parts + 1
  | .iface _ d => uptoBulk d + 1
  | .map entries => uptoBulkEntries entries + 1
  | .held _ => 1
def uptoBulkAll {H : Type} : List (DataW H) → Nat
  | [] => 0
  | d :: r => uptoBulk d + uptoBulkAll r
def uptoBulkEntries {H : Type} : List (Lit × DataW H) → Nat
  | [] => 0
  | x :: r => uptoBulkEntry x + uptoBulkEntries r
def uptoBulkEntry {H : Type} : Lit × DataW H → Nat
  | (.string bytes, d) => bytes.length + uptoBulk d + 1
  | (_, d) => uptoBulk d + 1
 end
def uptoSmall : (H : Type) → List (DataW H) → Bool := fun _ ds => decide (uptoBulkAll ds ≤ 1048576)
def OpenSpec.upto (s : _root_.Go.ChangeSpec) : _root_.Go.OpenSpec := { _root_.Go.OpenSpec.ofChange s with cond := some uptoSmall }

/-- 'quicksetkeep.LabelBack', WHERE WHAT IT READS IS OF BULK AT MOST 1048576: true; the input reads as it did. -/
def labelBackUptoRow : OpenClaim := { program := "ytkidbgfegnmhdaa", sum := "ffa411377d4dfac7643068d09828f9701b812054577cb1c4c090b897e7b3c27a", func := "quickset/quicksetkeep.LabelBack", spec := "labelBack", apart := false, narrowed := true }
def LabelBackUptoSaid : Prop := labelBackUptoRow.holds Try.pinned (OpenSpec.upto labelBackSpec)

/-- 'quicksetkeep.LabelFixed', WHERE WHAT IT READS IS OF BULK AT MOST 1048576: true; the input reads as it did. -/
def labelFixedUptoRow : OpenClaim := { program := "ytkidbgfegnmhdaa", sum := "ffa411377d4dfac7643068d09828f9701b812054577cb1c4c090b897e7b3c27a", func := "quickset/quicksetkeep.LabelFixed", spec := "labelFixed", apart := false, narrowed := true }
def LabelFixedUptoSaid : Prop := labelFixedUptoRow.holds Try.pinned (OpenSpec.upto labelFixedSpec)

/-- 'quicksetkeep.LabelTouched', WHERE WHAT IT READS IS OF BULK AT MOST 1048576: true; the input reads as it did. -/
def labelTouchedUptoRow : OpenClaim := { program := "ytkidbgfegnmhdaa", sum := "ffa411377d4dfac7643068d09828f9701b812054577cb1c4c090b897e7b3c27a", func := "quickset/quicksetkeep.LabelTouched", spec := "labelTouched", apart := false, narrowed := true }
def LabelTouchedUptoSaid : Prop := labelTouchedUptoRow.holds Try.pinned (OpenSpec.upto labelTouchedSpec)

/-- 'quicksetkeep.BestNewest', WHERE WHAT IT READS IS OF BULK AT MOST 1048576: true; the input reads as it did. -/
def bestNewestUptoRow : OpenClaim := { program := "ytkidbgfegnmhdaa", sum := "ffa411377d4dfac7643068d09828f9701b812054577cb1c4c090b897e7b3c27a", func := "quickset/quicksetkeep.BestNewest", spec := "bestNewest", apart := false, narrowed := true }
def BestNewestUptoSaid : Prop := bestNewestUptoRow.holds Try.pinned (OpenSpec.upto bestNewestSpec)

end Rows
end Go.Proofs.Ytkidbgfegnmhdaa
