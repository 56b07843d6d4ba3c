/-
  NARROWER THAN 'FOR EVERY INPUT', by the rows' own cells (each row's printed sentence says how): PhaseWalks: laid · PhaseEnds: laid · PhaseTells: laid.
  DERIVED. THE GIVEN ROWS OF THIS SEAT. 3 by the template 'for every input the law returns true; each argument reads behind the call as it read before'; 0 by the template 'total and deterministic' (their statements: YtmfbkaepkooneaaDoorTotals.lean).
  GIVEN WITH THE SEED: the statements are not yours to turn. If you find one false, say at which input.
  Laid BY PROGRAM, IN A SANDBOX (cutbox-rows.mjs): the forced cells as the released guide's own fill.sh prints them over the translation 441298b66366460a… (all of the seat's roots in one cut). By AI agents, Wed Nov 11 2026. No macro, syntax, notation, axiom, sorry.
-/
import Derived.Test.YtmfbkaepkooneaaDoorChecked
import GoSem.Claim
import GoSem.ClaimJoined
import GoSem.ClaimMapViews
import Derived.JoinedTies
import Derived.KernelRfl
namespace Go.Proofs.YtmfbkaepkooneaaDoor
/- THE CELL 'sum', in the pinned program and in every row, IS THE sha256 OF THE DUMP (.gsa) THAT YtmfbkaepkooneaaDoorProg.lean LOADS. Nothing in Lean hashes anything: it is a label: what it is worth is what the hold of that sum in a sandbox is worth. -/
noncomputable def Tryd.pinned : Pinned := { name := "ytmfbkaepkooneaadoor", sum := "441298b66366460a56c953cfb93da29cfa0f82aba087d7956dd38c47ef9f6c9b", checked := Tryd.checked }
namespace Rows
def none {H : Type} : Left H := { results := [], args := [] }

/- WHAT THE LISTED PACKAGE-LEVEL VARIABLES READ AS WHEN THE CALL BEGINS. Each datum BY PROGRAM (the guide's laid-datum.mjs) off the statement by which the dump's own 'gosem.cut.vars' lays the variable. In a bare row this is a premise. The card (YtmfbkaepkooneaaDoorCards.lean) ties it to the program's text. -/
def laid_forebay_phase_words {H : Type} : DataW H := .agg [.lit (.string []), .lit (.string [119, 97, 105, 116]), .lit (.string [105, 110]), .lit (.string [114, 101, 97, 100, 121]), .lit (.string [114, 117, 110]), .lit (.string [107, 101, 101, 112]), .lit (.string [111, 117, 116]), .lit (.string [100, 111, 110, 101]), .lit (.string [98, 97, 100]), .lit (.string [103, 111, 110, 101]), .lit (.string [108, 97, 116, 101])]

/-- 'forebaylaw22.PhaseWalks': WHATEVER THE INPUT: true; the input reads as it did. -/
def phaseWalksSpec : ChangeSpec := { name := "phaseWalks", fn := fun _ => fun
  | [d1, d2] => { results := [.lit (.bool true)], args := [d1, d2] }
  | _ => none }
def phaseWalksRow : OpenClaim := { program := "ytmfbkaepkooneaadoor", sum := "441298b66366460a56c953cfb93da29cfa0f82aba087d7956dd38c47ef9f6c9b", func := "forebay/forebaylaw22.PhaseWalks", spec := "phaseWalks", unfollowed := true, recurses := true, named := ["forebay/phase.words"], plainKeys := false, apart := false, laid := [("forebay/phase.words", laid_forebay_phase_words)] }
def PhaseWalksSaid : Prop := phaseWalksRow.holds Tryd.pinned (OpenSpec.ofChange phaseWalksSpec)

/-- ITS FALSE NEIGHBOUR: 'it returns false'. Refute it at one input. -/
def phaseWalksWrong : ChangeSpec := { name := "phaseWalks", fn := fun _ => fun
  | [d1, d2] => { results := [.lit (.bool false)], args := [d1, d2] }
  | _ => none }
def PhaseWalksWrongFalsely : Prop := phaseWalksRow.holds Tryd.pinned (OpenSpec.ofChange phaseWalksWrong)

/-- 'forebaylaw22.PhaseEnds': WHATEVER THE INPUT: true; the input reads as it did. -/
def phaseEndsSpec : ChangeSpec := { name := "phaseEnds", fn := fun _ => fun
  | [d1, d2] => { results := [.lit (.bool true)], args := [d1, d2] }
  | _ => none }
def phaseEndsRow : OpenClaim := { program := "ytmfbkaepkooneaadoor", sum := "441298b66366460a56c953cfb93da29cfa0f82aba087d7956dd38c47ef9f6c9b", func := "forebay/forebaylaw22.PhaseEnds", spec := "phaseEnds", unfollowed := true, recurses := true, named := ["forebay/phase.words"], plainKeys := false, apart := false, laid := [("forebay/phase.words", laid_forebay_phase_words)] }
def PhaseEndsSaid : Prop := phaseEndsRow.holds Tryd.pinned (OpenSpec.ofChange phaseEndsSpec)

/-- ITS FALSE NEIGHBOUR: 'it returns false'. Refute it at one input. -/
def phaseEndsWrong : ChangeSpec := { name := "phaseEnds", fn := fun _ => fun
  | [d1, d2] => { results := [.lit (.bool false)], args := [d1, d2] }
  | _ => none }
def PhaseEndsWrongFalsely : Prop := phaseEndsRow.holds Tryd.pinned (OpenSpec.ofChange phaseEndsWrong)

/-- 'forebaylaw22.PhaseTells': WHATEVER THE INPUT: true; the input reads as it did. -/
def phaseTellsSpec : ChangeSpec := { name := "phaseTells", fn := fun _ => fun
  | [d1, d2, d3] => { results := [.lit (.bool true)], args := [d1, d2, d3] }
  | _ => none }
def phaseTellsRow : OpenClaim := { program := "ytmfbkaepkooneaadoor", sum := "441298b66366460a56c953cfb93da29cfa0f82aba087d7956dd38c47ef9f6c9b", func := "forebay/forebaylaw22.PhaseTells", spec := "phaseTells", unfollowed := true, recurses := true, named := ["forebay/phase.words"], plainKeys := false, apart := false, laid := [("forebay/phase.words", laid_forebay_phase_words)] }
def PhaseTellsSaid : Prop := phaseTellsRow.holds Tryd.pinned (OpenSpec.ofChange phaseTellsSpec)

/-- ITS FALSE NEIGHBOUR: 'it returns false'. Refute it at one input. -/
def phaseTellsWrong : ChangeSpec := { name := "phaseTells", fn := fun _ => fun
  | [d1, d2, d3] => { results := [.lit (.bool false)], args := [d1, d2, d3] }
  | _ => none }
def PhaseTellsWrongFalsely : Prop := phaseTellsRow.holds Tryd.pinned (OpenSpec.ofChange phaseTellsWrong)

/- THE SECOND FORM. 'bulk': how many values and letters a reading holds, each counted each time it is reached (what is shared counts as often as it is met; a slice's spare places count too). A statement '..UptoSaid' is the law's where the arguments, and the package variables that the reading takes, are together of bulk at most 1048576: NARROWER than '..Said'. Prove '..Said' where nothing that the law and all that it calls make is longer than what came in: it says more and counts as full. Else prove '..UptoSaid'. A law counts once. -/
mutual
def uptoBulk {H : Type} : DataW H → Nat
  | .lit (.string bytes) => bytes.length + 1
  | .lit _ => 1
  | .nil => 1
  | .ptr d => uptoBulk d + 1
  | .slice elems spare => uptoBulkAll elems + uptoBulkAll spare + 1
  | .agg parts => uptoBulkAll parts + 1
  | .iface _ d => uptoBulk d + 1
  | .map entries => uptoBulkEntries entries + 1
  | .held _ => 1
def uptoBulkAll {H : Type} : List (DataW H) → Nat
  | [] => 0
  | d :: r => uptoBulk d + uptoBulkAll r
def uptoBulkEntries {H : Type} : List (Lit × DataW H) → Nat
  | [] => 0
  | x :: r => uptoBulkEntry x + uptoBulkEntries r
def uptoBulkEntry {H : Type} : Lit × DataW H → Nat
  | (.string bytes, d) => bytes.length + uptoBulk d + 1
  | (_, d) => uptoBulk d + 1
 end
def uptoSmall : (H : Type) → List (DataW H) → Bool := fun _ ds => decide (uptoBulkAll ds ≤ 1048576)
def OpenSpec.upto (s : _root_.Go.ChangeSpec) : _root_.Go.OpenSpec := { _root_.Go.OpenSpec.ofChange s with cond := some uptoSmall }

/-- 'forebaylaw22.PhaseWalks', WHERE WHAT IT READS IS OF BULK AT MOST 1048576: true; the input reads as it did. -/
def phaseWalksUptoRow : OpenClaim := { program := "ytmfbkaepkooneaadoor", sum := "441298b66366460a56c953cfb93da29cfa0f82aba087d7956dd38c47ef9f6c9b", func := "forebay/forebaylaw22.PhaseWalks", spec := "phaseWalks", unfollowed := true, recurses := true, named := ["forebay/phase.words"], plainKeys := false, apart := false, laid := [("forebay/phase.words", laid_forebay_phase_words)], narrowed := true }
def PhaseWalksUptoSaid : Prop := phaseWalksUptoRow.holds Tryd.pinned (OpenSpec.upto phaseWalksSpec)

/-- 'forebaylaw22.PhaseEnds', WHERE WHAT IT READS IS OF BULK AT MOST 1048576: true; the input reads as it did. -/
def phaseEndsUptoRow : OpenClaim := { program := "ytmfbkaepkooneaadoor", sum := "441298b66366460a56c953cfb93da29cfa0f82aba087d7956dd38c47ef9f6c9b", func := "forebay/forebaylaw22.PhaseEnds", spec := "phaseEnds", unfollowed := true, recurses := true, named := ["forebay/phase.words"], plainKeys := false, apart := false, laid := [("forebay/phase.words", laid_forebay_phase_words)], narrowed := true }
def PhaseEndsUptoSaid : Prop := phaseEndsUptoRow.holds Tryd.pinned (OpenSpec.upto phaseEndsSpec)

/-- 'forebaylaw22.PhaseTells', WHERE WHAT IT READS IS OF BULK AT MOST 1048576: true; the input reads as it did. -/
def phaseTellsUptoRow : OpenClaim := { program := "ytmfbkaepkooneaadoor", sum := "441298b66366460a56c953cfb93da29cfa0f82aba087d7956dd38c47ef9f6c9b", func := "forebay/forebaylaw22.PhaseTells", spec := "phaseTells", unfollowed := true, recurses := true, named := ["forebay/phase.words"], plainKeys := false, apart := false, laid := [("forebay/phase.words", laid_forebay_phase_words)], narrowed := true }
def PhaseTellsUptoSaid : Prop := phaseTellsUptoRow.holds Tryd.pinned (OpenSpec.upto phaseTellsSpec)

end Rows
end Go.Proofs.YtmfbkaepkooneaaDoor
