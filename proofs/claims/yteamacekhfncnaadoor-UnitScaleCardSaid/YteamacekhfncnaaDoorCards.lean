/-
  DERIVED. GIVEN WITH THE SEED: THE CARDS: each row of YteamacekhfncnaaDoorRows.lean that lists a variable, with what it lists TIED to the program's text (the seventh form; the later family's looks); each row that meets fmt, with fmt's text TOLD by the authors' own Lean function (tested against real Go, not proved from fmt's source: count such statements apart). THE CARD IS WHAT COUNTS. Prove the row's statement (the work); the ties are given (YteamacekhfncnaaDoorTie.lean); close each card by the builder's one call (the guide's Derived/Test/ToyasCard.lean, 'card_holds'). Laid BY PROGRAM, IN A SANDBOX (cutbox-door.mjs). By AI agents, Wed Nov 11 2026. No macro, syntax, notation, axiom, sorry.
-/
import Derived.Test.YteamacekhfncnaaDoorRows
import GoSem.ClaimSeven
namespace Go.Proofs.YteamacekhfncnaaDoor
namespace Rows

/-- THE TIED CARD OF 'forebaylaw13.UnitReads'. -/
def unitReadsCard : Claim7 := { stood := { row := unitReadsRow, standIns := [], harness := (true, "c17e49ffb642161e79f8160310c56e08ffa2ff0ef232ce2a1f3e5543f2721ef8"), looks := true }, kinds := [], alts := [], laidByText := true, laidKinds := [.data, .data, .data, .data, .sentinel, .sentinel, .mapped, .pinned], laidTests := true, laidLooks := .later }
def UnitReadsCardSaid : Prop := Claim7.holds Tryd.pinned (.plain (OpenSpec.ofChange unitReadsSpec)) unitReadsCard

/-- THE TIED CARD OF 'forebaylaw13.UnitTexts'. -/
def unitTextsCard : Claim7 := { stood := { row := unitTextsRow, standIns := [], harness := (true, "c17e49ffb642161e79f8160310c56e08ffa2ff0ef232ce2a1f3e5543f2721ef8"), looks := true }, kinds := [], alts := [], laidByText := true, laidKinds := [.data, .data, .data, .data, .sentinel, .sentinel, .mapped, .pinned], laidTests := true, laidLooks := .later }
def UnitTextsCardSaid : Prop := Claim7.holds Tryd.pinned (.plain (OpenSpec.ofChange unitTextsSpec)) unitTextsCard

/-- THE TIED CARD OF 'forebaylaw13.UnitScale'. -/
def unitScaleCard : Claim7 := { stood := { row := unitScaleRow, standIns := [], harness := (true, "c17e49ffb642161e79f8160310c56e08ffa2ff0ef232ce2a1f3e5543f2721ef8"), looks := true }, kinds := [], alts := [], laidByText := true, laidKinds := [.data, .data, .data, .data, .sentinel, .sentinel, .mapped, .pinned], laidTests := true, laidLooks := .later }
def UnitScaleCardSaid : Prop := Claim7.holds Tryd.pinned (.plain (OpenSpec.ofChange unitScaleSpec)) unitScaleCard

/-- THE TIED CARD OF 'forebaylaw13.UnitNames'. -/
def unitNamesCard : Claim7 := { stood := { row := unitNamesRow, standIns := [], harness := (true, "c17e49ffb642161e79f8160310c56e08ffa2ff0ef232ce2a1f3e5543f2721ef8"), looks := true }, kinds := [], alts := [], laidByText := true, laidKinds := [.data, .data, .data, .data, .sentinel, .sentinel, .mapped, .pinned], laidTests := true, laidLooks := .later }
def UnitNamesCardSaid : Prop := Claim7.holds Tryd.pinned (.plain (OpenSpec.ofChange unitNamesSpec)) unitNamesCard

/-- THE SECOND FORM's CARD OF 'forebaylaw13.UnitReads'. -/
def unitReadsUptoCard : Claim7 := { stood := { row := unitReadsUptoRow, standIns := [], harness := (true, "c17e49ffb642161e79f8160310c56e08ffa2ff0ef232ce2a1f3e5543f2721ef8"), looks := true }, kinds := [], alts := [], laidByText := true, laidKinds := [.data, .data, .data, .data, .sentinel, .sentinel, .mapped, .pinned], laidTests := true, laidLooks := .later }
def UnitReadsUptoCardSaid : Prop := Claim7.holds Tryd.pinned (.plain (OpenSpec.upto unitReadsSpec)) unitReadsUptoCard

/-- THE SECOND FORM's CARD OF 'forebaylaw13.UnitTexts'. -/
def unitTextsUptoCard : Claim7 := { stood := { row := unitTextsUptoRow, standIns := [], harness := (true, "c17e49ffb642161e79f8160310c56e08ffa2ff0ef232ce2a1f3e5543f2721ef8"), looks := true }, kinds := [], alts := [], laidByText := true, laidKinds := [.data, .data, .data, .data, .sentinel, .sentinel, .mapped, .pinned], laidTests := true, laidLooks := .later }
def UnitTextsUptoCardSaid : Prop := Claim7.holds Tryd.pinned (.plain (OpenSpec.upto unitTextsSpec)) unitTextsUptoCard

/-- THE SECOND FORM's CARD OF 'forebaylaw13.UnitScale'. -/
def unitScaleUptoCard : Claim7 := { stood := { row := unitScaleUptoRow, standIns := [], harness := (true, "c17e49ffb642161e79f8160310c56e08ffa2ff0ef232ce2a1f3e5543f2721ef8"), looks := true }, kinds := [], alts := [], laidByText := true, laidKinds := [.data, .data, .data, .data, .sentinel, .sentinel, .mapped, .pinned], laidTests := true, laidLooks := .later }
def UnitScaleUptoCardSaid : Prop := Claim7.holds Tryd.pinned (.plain (OpenSpec.upto unitScaleSpec)) unitScaleUptoCard

/-- THE SECOND FORM's CARD OF 'forebaylaw13.UnitNames'. -/
def unitNamesUptoCard : Claim7 := { stood := { row := unitNamesUptoRow, standIns := [], harness := (true, "c17e49ffb642161e79f8160310c56e08ffa2ff0ef232ce2a1f3e5543f2721ef8"), looks := true }, kinds := [], alts := [], laidByText := true, laidKinds := [.data, .data, .data, .data, .sentinel, .sentinel, .mapped, .pinned], laidTests := true, laidLooks := .later }
def UnitNamesUptoCardSaid : Prop := Claim7.holds Tryd.pinned (.plain (OpenSpec.upto unitNamesSpec)) unitNamesUptoCard
end Rows
end Go.Proofs.YteamacekhfncnaaDoor
