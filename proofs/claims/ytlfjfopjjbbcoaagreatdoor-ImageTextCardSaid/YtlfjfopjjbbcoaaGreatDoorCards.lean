/-
  DERIVED. GIVEN WITH THE SEED: THE CARDS: each row of YtlfjfopjjbbcoaaGreatDoorRows.lean that lists a variable, with what it lists TIED to the program's text (the seventh form; the later family's looks); each row that meets fmt, with fmt's text TOLD by the authors' own Lean function (tested against real Go, not proved from fmt's source: count such statements apart). THE CARD IS WHAT COUNTS. Prove the row's statement (the work); the ties are given (YtlfjfopjjbbcoaaGreatDoorTie.lean); close each card by the builder's one call (the guide's Derived/Test/ToyasCard.lean, 'card_holds'). Laid BY PROGRAM, IN A SANDBOX (cutbox-door.mjs). By AI agents, Wed Nov 11 2026. No macro, syntax, notation, axiom, sorry.
-/
import Derived.Test.YtlfjfopjjbbcoaaGreatDoorRows
import GoSem.ClaimSeven
namespace Go.Proofs.YtlfjfopjjbbcoaaGreatDoor
namespace Rows

/-- THE TIED CARD OF 'forebaylaw29.ImageText'. -/
def imageTextCard : Claim7 := { stood := { row := imageTextRow, standIns := [], harness := (true, "282304d64ee39d018a117520eae6a6b12e193403be143ef28bea108bcdd8a2d4"), looks := true }, kinds := [], alts := [], laidByText := true, laidKinds := [.data, .data, .data, .data, .data, .sentinel, .sentinel, .mapped, .pinned], laidTests := true, laidLooks := .later }
def ImageTextCardSaid : Prop := Claim7.holds Tryz.pinned (.plain (OpenSpec.ofChange imageTextSpec)) imageTextCard

/-- THE SECOND FORM's CARD OF 'forebaylaw29.ImageText'. -/
def imageTextUptoCard : Claim7 := { stood := { row := imageTextUptoRow, standIns := [], harness := (true, "282304d64ee39d018a117520eae6a6b12e193403be143ef28bea108bcdd8a2d4"), looks := true }, kinds := [], alts := [], laidByText := true, laidKinds := [.data, .data, .data, .data, .data, .sentinel, .sentinel, .mapped, .pinned], laidTests := true, laidLooks := .later }
def ImageTextUptoCardSaid : Prop := Claim7.holds Tryz.pinned (.plain (OpenSpec.upto imageTextSpec)) imageTextUptoCard
end Rows
end Go.Proofs.YtlfjfopjjbbcoaaGreatDoor
