/-
  A part of the proof of ImageText: walks of its functions and plain laws. Nothing is asked.
-/
import Derived.Test.YtlfjfopjjbbcoaaGreatDoorRows
import Derived.JoinedCond
import Derived.KernelRfl
set_option linter.all false
namespace Go.Proofs.YtlfjfopjjbbcoaaGreatDoor.image
open Go.Proofs
theorem laidOut:laidOutB Tryz.pinned.checked.prog=true:=by kernel_rfl
theorem mapsRowed':mapsRowed Tryz.pinned.checked.prog=true:=by kernel_rfl
theorem stops0:(Tryz.pinned.checked.prog.stops == [])=true:=by kernel_rfl
theorem knobs0:(Tryz.pinned.checked.prog.stopKnobs == [])=true:=by kernel_rfl
theorem heard:Tryz.pinned.checked.prog.stopsHeard=true:=by kernel_rfl
theorem enters:Tryz.pinned.checked.prog.mayEnter=true:=by kernel_rfl
theorem lifted':(Rows.imageTextRow.lifted == Tryz.pinned.checked.prog.liftsFinal)=true:=by kernel_rfl
theorem plainKeys':(Rows.imageTextRow.plainKeys == Tryz.pinned.checked.prog.plainKeys)=true:=by kernel_rfl
theorem make':(Tryz.pinned.checked.prog.make == some Rows.imageTextRow.make)=true:=by kernel_rfl
end Go.Proofs.YtlfjfopjjbbcoaaGreatDoor.image
