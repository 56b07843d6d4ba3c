/-
  DERIVED. GIVEN WITH THE SEED: THE CARDS: each row of YtmfbkaepkooneaaDoorRows.lean that lists a variable, with what it lists TIED to the program's text (the seventh form; the later family's looks); each row that meets fmt, with fmt's text TOLD by the authors' own Lean function (tested against real Go, not proved from fmt's source: count such statements apart). THE CARD IS WHAT COUNTS. Prove the row's statement (the work); the ties are given (YtmfbkaepkooneaaDoorTie.lean); close each card by the builder's one call (the guide's Derived/Test/ToyasCard.lean, 'card_holds'). Laid BY PROGRAM, IN A SANDBOX (cutbox-door.mjs). By AI agents, Wed Nov 11 2026. No macro, syntax, notation, axiom, sorry.
-/
import Derived.Test.YtmfbkaepkooneaaDoorRows
import GoSem.ClaimSeven
namespace Go.Proofs.YtmfbkaepkooneaaDoor
namespace Rows

/-- THE TIED CARD OF 'forebaylaw22.PhaseWalks'. -/
def phaseWalksCard : Claim7 := { stood := { row := phaseWalksRow, standIns := [], harness := (true, "69a25e18a0a22735c5d9dfdb0ed7566ad4a5d3c6d2a9f8d3dbf4c8e64d6dc6d1"), looks := false }, kinds := [], alts := [], laidByText := true, laidKinds := [.data], laidTests := true, laidLooks := .later }
def PhaseWalksCardSaid : Prop := Claim7.holds Tryd.pinned (.plain (OpenSpec.ofChange phaseWalksSpec)) phaseWalksCard

/-- THE TIED CARD OF 'forebaylaw22.PhaseEnds'. -/
def phaseEndsCard : Claim7 := { stood := { row := phaseEndsRow, standIns := [], harness := (true, "69a25e18a0a22735c5d9dfdb0ed7566ad4a5d3c6d2a9f8d3dbf4c8e64d6dc6d1"), looks := false }, kinds := [], alts := [], laidByText := true, laidKinds := [.data], laidTests := true, laidLooks := .later }
def PhaseEndsCardSaid : Prop := Claim7.holds Tryd.pinned (.plain (OpenSpec.ofChange phaseEndsSpec)) phaseEndsCard

/-- THE TIED CARD OF 'forebaylaw22.PhaseTells'. -/
def phaseTellsCard : Claim7 := { stood := { row := phaseTellsRow, standIns := [], harness := (true, "69a25e18a0a22735c5d9dfdb0ed7566ad4a5d3c6d2a9f8d3dbf4c8e64d6dc6d1"), looks := false }, kinds := [], alts := [], laidByText := true, laidKinds := [.data], laidTests := true, laidLooks := .later }
def PhaseTellsCardSaid : Prop := Claim7.holds Tryd.pinned (.plain (OpenSpec.ofChange phaseTellsSpec)) phaseTellsCard

/-- THE SECOND FORM's CARD OF 'forebaylaw22.PhaseWalks'. -/
def phaseWalksUptoCard : Claim7 := { stood := { row := phaseWalksUptoRow, standIns := [], harness := (true, "69a25e18a0a22735c5d9dfdb0ed7566ad4a5d3c6d2a9f8d3dbf4c8e64d6dc6d1"), looks := false }, kinds := [], alts := [], laidByText := true, laidKinds := [.data], laidTests := true, laidLooks := .later }
def PhaseWalksUptoCardSaid : Prop := Claim7.holds Tryd.pinned (.plain (OpenSpec.upto phaseWalksSpec)) phaseWalksUptoCard

/-- THE SECOND FORM's CARD OF 'forebaylaw22.PhaseEnds'. -/
def phaseEndsUptoCard : Claim7 := { stood := { row := phaseEndsUptoRow, standIns := [], harness := (true, "69a25e18a0a22735c5d9dfdb0ed7566ad4a5d3c6d2a9f8d3dbf4c8e64d6dc6d1"), looks := false }, kinds := [], alts := [], laidByText := true, laidKinds := [.data], laidTests := true, laidLooks := .later }
def PhaseEndsUptoCardSaid : Prop := Claim7.holds Tryd.pinned (.plain (OpenSpec.upto phaseEndsSpec)) phaseEndsUptoCard

/-- THE SECOND FORM's CARD OF 'forebaylaw22.PhaseTells'. -/
def phaseTellsUptoCard : Claim7 := { stood := { row := phaseTellsUptoRow, standIns := [], harness := (true, "69a25e18a0a22735c5d9dfdb0ed7566ad4a5d3c6d2a9f8d3dbf4c8e64d6dc6d1"), looks := false }, kinds := [], alts := [], laidByText := true, laidKinds := [.data], laidTests := true, laidLooks := .later }
def PhaseTellsUptoCardSaid : Prop := Claim7.holds Tryd.pinned (.plain (OpenSpec.upto phaseTellsSpec)) phaseTellsUptoCard
end Rows
end Go.Proofs.YtmfbkaepkooneaaDoor
