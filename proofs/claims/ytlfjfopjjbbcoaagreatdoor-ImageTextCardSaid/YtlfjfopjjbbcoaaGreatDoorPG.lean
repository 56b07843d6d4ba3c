/-
  A part of the proof of ImageText: walks of its functions and plain laws. Nothing is asked.
-/
import Derived.Test.YtlfjfopjjbbcoaaGreatDoorRows
import Derived.JoinedCond
import Derived.KernelRfl
set_option linter.all false
namespace Go.Proofs.YtlfjfopjjbbcoaaGreatDoor.image
open Go.Proofs
theorem inPlace3:(Rows.imageTextRow.inPlace == Tryz.pinned.checked.prog.inPlace 3)=true:=by kernel_rfl
theorem unf3:(Rows.imageTextRow.unfollowed == Tryz.pinned.checked.prog.unfollowed 3)=true:=by kernel_rfl
theorem rec3:(Rows.imageTextRow.recurses == Tryz.pinned.checked.prog.recurses 3)=true:=by
 have h:Tryz.pinned.checked.prog.unfollowed 3=true:=(beq_iff_eq.1 unf3).symm
 unfold Program.recurses
 rw [h]
 rfl
end Go.Proofs.YtlfjfopjjbbcoaaGreatDoor.image
