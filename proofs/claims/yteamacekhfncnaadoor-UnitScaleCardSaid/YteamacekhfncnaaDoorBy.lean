/-
  The reference's table of units: it answers what the plain function says, for every string. Nothing is asked.
-/
import Derived.Test.YteamacekhfncnaaDoorSize
namespace Go.Proofs.YteamacekhfncnaaDoor
open Go.RowKit
theorem below_two (w : World) (a b : Obj) : Below w.heap.size w ((w.alloc a).alloc b) := ((Below.refl _ _).alloc (Nat.le_refl _) a).alloc (by simp) b

theorem find_at (u : List UInt8) : ∀ (l : List (List UInt8 × Int)) (k : Nat) (q : List UInt8 × Int), (l.take k).all (fun p => !(p.1 == u)) = true → l[k]? = some q → (q.1 == u) = true → l.find? (fun p => p.1 == u) = some q
  | [], k, q, _, h, _ => by simp at h
  | x :: r, 0, q, _, h, h2 => by
    simp only [List.getElem?_cons_zero, Option.some.injEq] at h
    subst h
    simp [h2]
  | x :: r, k + 1, q, h0, h, h2 => by
    simp only [List.take_succ_cons, List.all_cons, Bool.and_eq_true, Bool.not_eq_true'] at h0
    simp only [List.getElem?_cons_succ] at h
    rw [List.find?_cons, h0.1]
    exact find_at u r k q h0.2 h h2
theorem byU_at {u : List UInt8} {k : Nat} {q : List UInt8 × Int} (h0 : (unitL.take k).all (fun p => !(p.1 == u)) = true) (h : unitL[k]? = some q) (h2 : (q.1 == u) = true) : byU u = q.2 := by
  unfold byU; rw [find_at u unitL k q h0 h h2]
theorem byU_end {u : List UInt8} (h0 : (unitL.take 9).all (fun p => !(p.1 == u)) = true) : byU u = 0 := by
  have : unitL.find? (fun p => p.1 == u) = none := by
    rw [List.find?_eq_none]
    intro p hp
    have := List.all_eq_true.1 h0 p hp
    simpa using this
  unfold byU; rw [this]
theorem take_next {u : List UInt8} {k : Nat} {q : List UInt8 × Int} (h0 : (unitL.take k).all (fun p => !(p.1 == u)) = true) (h : unitL[k]? = some q) (h2 : (q.1 == u) = false) : (unitL.take (k + 1)).all (fun p => !(p.1 == u)) = true := by
  rw [List.take_add_one, List.all_append, h0, h]
  simp [h2]
theorem emp_beq {l : List UInt8} {b : Bool} (h : l.isEmpty = b) : (([] : List UInt8) == l) = b := by
  rw [← h]; cases l <;> rfl
theorem ret_one {a b : Int} (h : a = b) : Ending.returned (.int .i64 a) = .returned (.int .i64 b) := by rw [h]

set_option maxRecDepth 100000 in
set_option maxHeartbeats 4000000 in
theorem by_any (s : ByteArray) (w : World) : Calls Tryd.prog 24 #[.string s] w fun e w' => e = .returned (.int .i64 (byU s.data.toList)) ∧ Below w.heap.size w w' := by
  have hB := Lib.hid (ByteArray.toList_eq s)
  go_enter Tryd.func24, Tryd.ntmps24
  go_wp2
  go_loop [5] (fun i => ∃ k : Nat, k ≤ 9 ∧ i = .int .i64 k ∧ (unitL.take k).all (fun p => !(p.1 == s.data.toList)) = true) (fun i => 9 - (intOf i).toNat)
  case atStart => exact ⟨0, by omega, rfl, rfl⟩
  case round =>
    obtain ⟨k, hk, rfl, hall⟩ := hrel
    have H := Lib.hid hall
    clear hall
    by_cases h9 : k = 9
    · subst h9
      go_wp2
      go_ret
      exact ⟨ret_one (byU_end H.out).symm, below_two _ _ _⟩
    obtain rfl | rfl | rfl | rfl | rfl | rfl | rfl | rfl | rfl : k = 0 ∨ k = 1 ∨ k = 2 ∨ k = 3 ∨ k = 4 ∨ k = 5 ∨ k = 6 ∨ k = 7 ∨ k = 8 := by omega
    case neg.inl => 
      go_wp2_with fail
      · rename_i hq _
        rw [hB.out] at hq
        go_ret
        exact ⟨ret_one (byU_at H.out rfl (emp_beq hq)).symm, below_two _ _ _⟩
      · rename_i hq
        rw [hB.out] at hq
        exact ⟨⟨_, (by decide : _ + 1 ≤ 9), rfl, take_next H.out rfl (emp_beq hq)⟩, by decide⟩
    all_goals
      go_wp2_with fail
      · rename_i hq _
        rw [hB.out] at hq
        go_ret
        exact ⟨ret_one (byU_at H.out rfl hq).symm, below_two _ _ _⟩
      · rename_i hq
        rw [hB.out] at hq
        exact ⟨⟨_, (by decide : _ + 1 ≤ 9), rfl, take_next H.out rfl hq⟩, by decide⟩
end Go.Proofs.YteamacekhfncnaaDoor
