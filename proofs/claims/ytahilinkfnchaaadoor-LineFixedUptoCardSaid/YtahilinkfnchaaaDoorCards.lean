/-
  DERIVED. GIVEN WITH THE SEED: THE CARDS: each row of YtahilinkfnchaaaDoorRows.lean that lists a variable, with what it lists TIED to the program's text (the seventh form; the later family's looks); each row that meets fmt, with fmt's text TOLD by the authors' own Lean function (tested against real Go, not proved from fmt's source: count such statements apart). THE CARD IS WHAT COUNTS. Prove the row's statement (the work); the ties are given (YtahilinkfnchaaaDoorTie.lean); close each card by the builder's one call (the guide's Derived/Test/ToyasCard.lean, 'card_holds'). Laid BY PROGRAM, IN A SANDBOX (cutbox-door.mjs). By AI agents, Wed Nov 11 2026. No macro, syntax, notation, axiom, sorry.
-/
import Derived.Test.YtahilinkfnchaaaDoorRows
import GoSem.ClaimSeven
namespace Go.Proofs.YtahilinkfnchaaaDoor
namespace Rows

/-- THE TIED CARD OF 'quicksetkeep.ToldBack'. -/
def toldBackCard : Claim7 := { stood := { row := toldBackRow, standIns := [], harness := (true, "a7ada60371602d87b4dac555df7ebf7cfc66dfb8bfcb82e64d924a7c1c8b09c4"), looks := true }, kinds := [], alts := [], laidByText := true, laidKinds := [.data, .data, .data, .data, .sentinel, .sentinel, .pinned], laidTests := true, laidLooks := .later }
def ToldBackCardSaid : Prop := Claim7.holds Tryd.pinned (.plain (OpenSpec.ofChange toldBackSpec)) toldBackCard

/-- THE TIED CARD OF 'quicksetkeep.LineBack'. -/
def lineBackCard : Claim7 := { stood := { row := lineBackRow, standIns := [], harness := (true, "a7ada60371602d87b4dac555df7ebf7cfc66dfb8bfcb82e64d924a7c1c8b09c4"), looks := true }, kinds := [], alts := [], laidByText := true, laidKinds := [.data, .data, .data, .data, .sentinel, .sentinel, .widerDeep, .pinned], laidTests := true, laidLooks := .later }
def LineBackCardSaid : Prop := Claim7.holds Tryd.pinned (.plain (OpenSpec.ofChange lineBackSpec)) lineBackCard

/-- THE TIED CARD OF 'quicksetkeep.LineFixed'. -/
def lineFixedCard : Claim7 := { stood := { row := lineFixedRow, standIns := [], harness := (true, "a7ada60371602d87b4dac555df7ebf7cfc66dfb8bfcb82e64d924a7c1c8b09c4"), looks := true }, kinds := [], alts := [], laidByText := true, laidKinds := [.data, .data, .data, .data, .sentinel, .sentinel, .widerDeep, .pinned], laidTests := true, laidLooks := .later }
def LineFixedCardSaid : Prop := Claim7.holds Tryd.pinned (.plain (OpenSpec.ofChange lineFixedSpec)) lineFixedCard

/-- THE SECOND FORM's CARD OF 'quicksetkeep.ToldBack'. -/
def toldBackUptoCard : Claim7 := { stood := { row := toldBackUptoRow, standIns := [], harness := (true, "a7ada60371602d87b4dac555df7ebf7cfc66dfb8bfcb82e64d924a7c1c8b09c4"), looks := true }, kinds := [], alts := [], laidByText := true, laidKinds := [.data, .data, .data, .data, .sentinel, .sentinel, .pinned], laidTests := true, laidLooks := .later }
def ToldBackUptoCardSaid : Prop := Claim7.holds Tryd.pinned (.plain (OpenSpec.upto toldBackSpec)) toldBackUptoCard

/-- THE SECOND FORM's CARD OF 'quicksetkeep.LineBack'. -/
def lineBackUptoCard : Claim7 := { stood := { row := lineBackUptoRow, standIns := [], harness := (true, "a7ada60371602d87b4dac555df7ebf7cfc66dfb8bfcb82e64d924a7c1c8b09c4"), looks := true }, kinds := [], alts := [], laidByText := true, laidKinds := [.data, .data, .data, .data, .sentinel, .sentinel, .widerDeep, .pinned], laidTests := true, laidLooks := .later }
def LineBackUptoCardSaid : Prop := Claim7.holds Tryd.pinned (.plain (OpenSpec.upto lineBackSpec)) lineBackUptoCard

/-- THE SECOND FORM's CARD OF 'quicksetkeep.LineFixed'. -/
def lineFixedUptoCard : Claim7 := { stood := { row := lineFixedUptoRow, standIns := [], harness := (true, "a7ada60371602d87b4dac555df7ebf7cfc66dfb8bfcb82e64d924a7c1c8b09c4"), looks := true }, kinds := [], alts := [], laidByText := true, laidKinds := [.data, .data, .data, .data, .sentinel, .sentinel, .widerDeep, .pinned], laidTests := true, laidLooks := .later }
def LineFixedUptoCardSaid : Prop := Claim7.holds Tryd.pinned (.plain (OpenSpec.upto lineFixedSpec)) lineFixedUptoCard
end Rows
end Go.Proofs.YtahilinkfnchaaaDoor
