/-
  PhaseTells: its walk: true for every phase, event and has. Condition: the words' table as its text lays it.
-/
import Derived.Test.YtmfbkaepkooneaaDoorHead
namespace Go.Proofs.YtmfbkaepkooneaaDoor
open Go.RowKit Go.Maps

theorem has_cells {h0 h1 h2 h3 : Bool} {w w1 : World} (hb : Below (w.alloc (.cells #[.bool h0, .bool h1, .bool h2, .bool h3] 24)).heap.size (w.alloc (.cells #[.bool h0, .bool h1, .bool h2, .bool h3] 24)) w1) :
    w1.cell? ⟨w.heap.size, 0, none⟩ = some (.bool h0) ∧ w1.cell? ⟨w.heap.size, 1, none⟩ = some (.bool h1) ∧ w1.cell? ⟨w.heap.size, 2, none⟩ = some (.bool h2) ∧ w1.cell? ⟨w.heap.size, 3, none⟩ = some (.bool h3) := by
  refine ⟨?_, ?_, ?_, ?_⟩ <;> (rw [hb.cell (by simp), World.cell?_alloc_at _ _ _ _ rfl]; rfl)
theorem below_has {h0 h1 h2 h3 : Bool} {w w1 : World} (hb : Below (w.alloc (.cells #[.bool h0, .bool h1, .bool h2, .bool h3] 24)).heap.size (w.alloc (.cells #[.bool h0, .bool h1, .bool h2, .bool h3] 24)) w1) : Below w.heap.size w w1 :=
  ((Below.refl _ _).alloc (Nat.le_refl _) _).trans (hb.mono (by simp))
theorem below_next {w w1 w2 : World} (h : Below w.heap.size w w1) (k : Below w1.heap.size w1 w2) : Below w.heap.size w w2 := h.trans (k.mono h.size)

theorem bd8 {p : Int} (h : (Lit.int .u8 p).wf = true) : 0 ≤ p ∧ p ≤ 255 := by
  simp [Lit.wf, IntKind.min, IntKind.max, IntKind.signed, IntKind.bits] at h; omega

set_option maxHeartbeats 1000000 in
theorem tells_any (p q : Int) (h0 h1 h2 h3 : Bool) (w : World) (wp : (Lit.int .u8 p).wf = true) (wq : (Lit.int .u8 q).wf = true) (hw : Words w) :
    Calls Tryd.prog 5 #[.int .u8 p, .int .u8 q, .agg #[.bool h0, .bool h1, .bool h2, .bool h3]] w fun e w' => e = .returned (.bool true) ∧ Below w.heap.size w w' := by
  have hz := hw.1
  have hcs : (p < 2 ∧ hold1 p = false ∧ hold2 p = false ∧ hold3 p = false ∧ (p == 4) = false ∧ (p == 2) = false ∧ (p == 6) = false) ∨ p = 2 ∨ p = 3 ∨ p = 4 ∨ p = 5 ∨ p = 6 ∨ (6 < p ∧ hold1 p = false ∧ hold2 p = false ∧ hold3 p = false ∧ (p == 4) = false ∧ (p == 2) = false ∧ (p == 6) = false ∧ decide (p ≤ 6) = false) := by
    by_cases a : p < 2
    · exact .inl ⟨a, by simp [hold1]; omega, by simp [hold2]; omega, by simp [hold3]; omega, by simp; omega, by simp; omega, by simp; omega⟩
    · by_cases b : 6 < p
      · exact .inr (.inr (.inr (.inr (.inr (.inr ⟨b, by simp [hold1]; omega, by simp [hold2]; omega, by simp [hold3]; omega, by simp; omega, by simp; omega, by simp; omega, by simp; omega⟩)))))
      · omega
  generalize hv : nxV h0 h1 h2 h3 p q = v
  generalize he : nxE h0 h1 h2 h3 p q = e0
  have hn := next_any p q h0 h1 h2 h3 
  have hr := rnext_any p q h0 h1 h2 h3
  rw [hv, he] at hn hr
  have Hn := Lib.hid hn
  have Hr := Lib.hid hr
  obtain ⟨b0, b1⟩ := bd8 wp
  clear hn hr hv he
  rcases hcs with ⟨a, e1, e2, e3, e4, e5, e6⟩ | rfl | rfl | rfl | rfl | rfl | ⟨a, e1, e2, e3, e4, e5, e6, e7⟩
  all_goals
    go_enter Tryd.func5, Tryd.ntmps5
    go_wp2_with fail
    refine (Hn.out _ wp wq).mono ?_
    rintro e w1 ⟨rfl, hb1⟩
    obtain ⟨c0, c1, c2, c3⟩ := has_cells hb1
    have hw1 := below_has hb1
    clear hb1
    go_wp2_with fail
    refine (Hr.out _).mono ?_
    rintro e w2 ⟨rfl, hb2⟩
    have hw2 := below_next hw1 hb2
    have hW2 := hw.below hw2 hz
    clear hb2 hw1 c0 c1 c2 c3
    go_wp2_with fail
    refine (holds_any _ _).mono ?_
    rintro e w' ⟨rfl, rfl⟩
    go_wp2_with fail
    refine (over_any _ _).mono ?_
    rintro e w' ⟨rfl, rfl⟩
    go_wp2_with fail
    refine (rover_any _ _).mono ?_
    rintro e w' ⟨rfl, rfl⟩
    go_wp2_with fail
    refine (word_any _ _ (by omega) (by omega) hW2).mono ?_
    rintro e w' ⟨rfl, rfl⟩
    go_wp2_with fail
    refine (rword_any _ _ (by omega) (by omega)).mono ?_
    rintro e w3 ⟨rfl, hb3⟩
    have hw3 := below_next hw2 hb3
    have hW3 := hw.below hw3 hz
    clear hb3 hw2 hW2
    go_wp2_with fail
    refine (head_any _ hW3).mono ?_
    rintro e w4 ⟨rfl, hb4⟩
    have hw4 := below_next hw3 hb4
    clear hb4 hw3 hW3
    go_wp2
    go_ret
    exact ⟨rfl, hw4⟩
end Go.Proofs.YtmfbkaepkooneaaDoor
