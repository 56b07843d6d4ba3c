/-
  The units' table: what its map holds, key by key, and that it stays while nothing that stood is turned. Nothing is asked.
-/
import Derived.Test.YteamacekhfncnaaDoorRNum
import Derived.Maps.Own
import Derived.Maps.Views
import Derived.Maps.OwnIn
import Derived.Lib.LaidTab
import Derived.ProofKit
namespace Go.Proofs.YteamacekhfncnaaDoor
open Go.RowKit Go.Maps Go.WideMaps

/-- The units: their names and sizes; no name: once. -/
def unitL : List (List UInt8 × Int) := [([], 1), ([75, 66], 1000), ([77, 66], 1000000), ([71, 66], 1000000000), ([84, 66], 1000000000000), ([75, 105, 66], 1024), ([77, 105, 66], 1048576), ([71, 105, 66], 1073741824), ([84, 105, 66], 1099511627776)]
def byU (u : List UInt8) : Int := match unitL.find? (fun p => p.1 == u) with | some p => p.2 | none => 0

/-- The table as the row lists it. -/
def unitD {H : Type} : DataW H := .map [(.string [71, 66], .lit (.int .i64 1000000000)), (.string [71, 105, 66], .lit (.int .i64 1073741824)), (.string [75, 66], .lit (.int .i64 1000)), (.string [75, 105, 66], .lit (.int .i64 1024)), (.string [77, 66], .lit (.int .i64 1000000)), (.string [77, 105, 66], .lit (.int .i64 1048576)), (.string [84, 66], .lit (.int .i64 1000000000000)), (.string [84, 105, 66], .lit (.int .i64 1099511627776))]

theorem unit_at (u : List UInt8) (hu : u ≠ []) : (unitD : DataW Unit).atKey (.string u) (.lit (.int .i64 0)) = .lit (.int .i64 (byU u)) := by
  have hb : ∀ a : List UInt8, Lit.sameKey (.string a) (.string u) = (a == u) := fun a => rfl
  unfold unitD byU unitL
  by_cases h0 : u ∈ [([75, 66] : List UInt8), [77, 66], [71, 66], [84, 66], [75, 105, 66], [77, 105, 66], [71, 105, 66], [84, 105, 66]]
  · simp only [List.mem_cons, List.not_mem_nil, or_false] at h0
    rcases h0 with rfl | rfl | rfl | rfl | rfl | rfl | rfl | rfl <;> rfl
  · have hne : ∀ a ∈ [([75, 66] : List UInt8), [77, 66], [71, 66], [84, 66], [75, 105, 66], [77, 105, 66], [71, 105, 66], [84, 105, 66]], (a == u) = false := by
      intro a ha
      rw [beq_eq_false_iff_ne]
      rintro rfl
      exact h0 ha
    simp only [List.mem_cons, List.not_mem_nil, or_false, forall_eq_or_imp, forall_eq] at hne
    obtain ⟨a1, a2, a3, a4, a5, a6, a7, a8⟩ := hne
    have a0 : (([] : List UInt8) == u) = false := by rw [beq_eq_false_iff_ne]; exact fun h => hu h.symm
    simp only [DataW.atKey, List.find?_cons, hb, a0, a1, a2, a3, a4, a5, a6, a7, a8, List.find?_nil]

/-- The units' table stands. -/
def Units (w : World) : Prop := ∃ bm n, w.cell? ⟨0, 0, none⟩ = some (.map (some bm)) ∧ w.ownsMap (H := Unit) Tryd.prog 9 (plainElem Tryd.prog 2) bm n unitD

theorem Units.below {w w' : World} (h : Units w) (hb : Below w.heap.size w w') : Units w' := by
  obtain ⟨bm, n, h1, es, clock, h2, h3⟩ := h
  exact ⟨bm, n, (hb.cell (World.block_lt_of_cell? w _ h1)).trans h1, es, clock, (hb.block bm (Array.getElem?_eq_some_iff.1 h2).1).trans h2, h3⟩

theorem law9 : Keyed Tryd.prog 9 := string_keyed Tryd.underlying9
theorem zero2 (w : World) : (zeroValue 2).run Tryd.prog w = .ok (.int .i64 0) w := by kernel_rfl

theorem Units.look {w : World} (h : Units w) (u : ByteArray) (hu : u.data.toList ≠ []) (hs : u.size ≤ maxLen) :
    ∃ bm, w.cell? ⟨0, 0, none⟩ = some (.map (some bm)) ∧ (Instr.lookup 41 (.map (some bm)) (.string u) false).run Tryd.prog w = .ok (.int .i64 (byU u.data.toList)) w := by
  obtain ⟨bm, n, h1, ho⟩ := h
  obtain ⟨c, hrun, hat, _⟩ := ho.lookup_int law9 Tryd.underlying41 Tryd.underlying2 (zero2 w) (keyOf_string_mk Tryd.underlying9 hs)
  rw [unit_at _ hu] at hat
  cases hat
  exact ⟨bm, h1, hrun⟩
end Go.Proofs.YteamacekhfncnaaDoor
