/-
  A part of the proof of ImageText: walks of its functions and plain laws. Nothing is asked.
-/
import Derived.Test.YtlfjfopjjbbcoaaGreatDoorRows
import Derived.JoinedCond
import Derived.KernelRfl
set_option linter.all false
namespace Go.Proofs.YtlfjfopjjbbcoaaGreatDoor.image
open Go.Proofs
theorem named3:(Rows.imageTextRow.named == Tryz.pinned.checked.prog.varsNamed 3)=true:=by kernel_rfl
theorem func3:Tryz.pinned.checked.prog.funcNamed Rows.imageTextRow.func=some 3:=by kernel_rfl
theorem inst3:Tryz.f3.isInstance Tryz.pinned.checked.prog Rows.imageTextRow.origin Rows.imageTextRow.targs:=(of_decide_eq_true (by kernel_rfl))
theorem wrap3:Tryz.f3.isWrapper Tryz.pinned.checked.prog Rows.imageTextRow.wrapper Rows.imageTextRow.mainSum:=(by unfold Func.isWrapper;first | (rw [if_pos (by decide +kernel)];kernel_rfl) | (rw [if_neg (by decide +kernel)];exact ⟨rfl,rfl⟩))
end Go.Proofs.YtlfjfopjjbbcoaaGreatDoor.image
