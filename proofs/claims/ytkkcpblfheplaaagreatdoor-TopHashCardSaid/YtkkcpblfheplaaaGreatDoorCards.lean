/-
  DERIVED. GIVEN WITH THE SEED: THE CARDS: each row of YtkkcpblfheplaaaGreatDoorRows.lean that lists a variable, with what it lists TIED to the program's text (the seventh form; the later family's looks); each row that meets fmt, with fmt's text TOLD by the authors' own Lean function (tested against real Go, not proved from fmt's source: count such statements apart). THE CARD IS WHAT COUNTS. Prove the row's statement (the work); the ties are given (YtkkcpblfheplaaaGreatDoorTie.lean); close each card by the builder's one call (the guide's Derived/Test/ToyasCard.lean, 'card_holds'). Laid BY PROGRAM, IN A SANDBOX (cutbox-door.mjs). By AI agents, Wed Nov 11 2026. No macro, syntax, notation, axiom, sorry.
-/
import Derived.Test.YtkkcpblfheplaaaGreatDoorRows
import GoSem.ClaimSeven
namespace Go.Proofs.YtkkcpblfheplaaaGreatDoor
namespace Rows

/-- THE TIED CARD OF 'downpourtop.TopForeign'. -/
def topForeignCard : Claim7 := { stood := { row := topForeignRow, standIns := [], harness := (true, "76cef575c663eb499e57b0918962d2308f180d9c955cd2fe9faaa8345574e40f"), looks := false }, kinds := [], alts := [], laidByText := true, laidKinds := [.data], laidTests := true, laidLooks := .later }
def TopForeignCardSaid : Prop := Claim7.holds Tryz.pinned (.plain (OpenSpec.ofChange topForeignSpec)) topForeignCard

/-- THE TIED CARD OF 'downpourtop.TopHash'. -/
def topHashCard : Claim7 := { stood := { row := topHashRow, standIns := [], harness := (true, "76cef575c663eb499e57b0918962d2308f180d9c955cd2fe9faaa8345574e40f"), looks := false }, kinds := [], alts := [], laidByText := true, laidKinds := [.data], laidTests := true, laidLooks := .later }
def TopHashCardSaid : Prop := Claim7.holds Tryz.pinned (.plain (OpenSpec.ofChange topHashSpec)) topHashCard

/-- THE SECOND FORM's CARD OF 'downpourtop.TopForeign'. -/
def topForeignUptoCard : Claim7 := { stood := { row := topForeignUptoRow, standIns := [], harness := (true, "76cef575c663eb499e57b0918962d2308f180d9c955cd2fe9faaa8345574e40f"), looks := false }, kinds := [], alts := [], laidByText := true, laidKinds := [.data], laidTests := true, laidLooks := .later }
def TopForeignUptoCardSaid : Prop := Claim7.holds Tryz.pinned (.plain (OpenSpec.upto topForeignSpec)) topForeignUptoCard

/-- THE SECOND FORM's CARD OF 'downpourtop.TopHash'. -/
def topHashUptoCard : Claim7 := { stood := { row := topHashUptoRow, standIns := [], harness := (true, "76cef575c663eb499e57b0918962d2308f180d9c955cd2fe9faaa8345574e40f"), looks := false }, kinds := [], alts := [], laidByText := true, laidKinds := [.data], laidTests := true, laidLooks := .later }
def TopHashUptoCardSaid : Prop := Claim7.holds Tryz.pinned (.plain (OpenSpec.upto topHashSpec)) topHashUptoCard
end Rows
end Go.Proofs.YtkkcpblfheplaaaGreatDoor
