/-
  What the closures of phase.Next do: each of them makes, or calls, a function that answers one phase; and the small functions of the package. No condition but the cells that are read.
-/
import Derived.Test.YtmfbkaepkooneaaDoorRows
import Derived.WalkKit
import Derived.WalkSpells
import Derived.WalkLawsBesides
namespace Go.Proofs.YtmfbkaepkooneaaDoor
open Go.RowKit

/-- A function that answers what the cell at block n holds. -/
def clo (n : Nat) : Value := .func (.func 15) #[] #[.pointer (some ⟨n, 0, none⟩)]

set_option maxHeartbeats 400000 in
theorem c14 (c : Int) (w : World) :
    Calls Tryd.prog 14 #[.int .u8 c] w fun e w' => e = .returned (clo w.heap.size) ∧ w' = w.alloc (.cells #[.int .u8 c] 5) := by
  go_enter Tryd.func14, Tryd.ntmps14
  go_wp2
  go_ret
  exact ⟨rfl, rfl⟩

set_option maxHeartbeats 400000 in
theorem c15 (c : Int) (n : Nat) (w : World) (hc : w.cell? ⟨n, 0, none⟩ = some (.int .u8 c)) :
    Calls Tryd.prog 15 #[.pointer (some ⟨n, 0, none⟩)] w fun e w' => e = .returned (.int .u8 c) ∧ w' = w := by
  go_enter Tryd.func15, Tryd.ntmps15
  go_wp2
  go_ret
  exact ⟨rfl, rfl⟩

set_option maxHeartbeats 400000 in
theorem c16 (so : Bool) (y n : Int) (b : Nat) (w : World) (hc : w.cell? ⟨b, 0, none⟩ = some (.func (.func 14) #[] #[])) :
    Calls Tryd.prog 16 #[.bool so, .int .u8 y, .int .u8 n, .pointer (some ⟨b, 0, none⟩)] w fun e w' => e = .returned (clo w.heap.size) ∧ w' = w.alloc (.cells #[.int .u8 (if so = true then y else n)] 5) := by
  cases so
  · go_enter Tryd.func16, Tryd.ntmps16
    go_wp2_with (go_at_call 14; refine (c14 _ _).mono ?_; rintro e w' ⟨rfl, rfl⟩)
    go_ret
    exact ⟨rfl, rfl⟩
  · go_enter Tryd.func16, Tryd.ntmps16
    go_wp2_with (go_at_call 14; refine (c14 _ _).mono ?_; rintro e w' ⟨rfl, rfl⟩)
    go_ret
    exact ⟨rfl, rfl⟩

end Go.Proofs.YtmfbkaepkooneaaDoor
