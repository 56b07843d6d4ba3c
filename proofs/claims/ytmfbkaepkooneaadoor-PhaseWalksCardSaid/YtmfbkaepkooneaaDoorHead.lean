/-
  head: the calls whose answers the document fixes answer so. Condition: the words' table as its text lays it.
-/
import Derived.Test.YtmfbkaepkooneaaDoorSmall
namespace Go.Proofs.YtmfbkaepkooneaaDoor
open Go.RowKit Go.Maps

theorem nv1 : nxV true false false false 1 1 = 2 := by decide
theorem ne1 : nxE true false false false 1 1 = 0 := by decide
theorem nv2 : nxV false true false false 4 6 = 5 := by decide
theorem ne2 : nxE false true false false 4 6 = 0 := by decide
theorem nv3 : nxV false false false false 6 8 = 10 := by decide
theorem ne3 : nxE false false false false 6 8 = 0 := by decide
theorem nv4 : nxV false false false false 7 10 = 0 := by decide
theorem ne4 : nxE false false false false 7 10 = 220 := by decide

theorem wdb5 : wdb 5 = ⟨#[107, 101, 101, 112]⟩ := rfl

set_option maxHeartbeats 1000000 in
theorem head_any (w : World) (hw : Words w) : Calls Tryd.prog 9 #[] w fun e w' => e = .returned (.bool true) ∧ Below w.heap.size w w' := by
  have h0 := hw.1
  have n1 := nv1
  have n2 := ne1
  have n3 := nv2
  have n4 := ne2
  have n5 := nv3
  have n6 := ne3
  have n7 := nv4
  have n8 := ne4
  have n9 := wdb5
  go_enter Tryd.func9, Tryd.ntmps9
  go_wp2_with fail
  refine (next_any 1 1 true false false false _ (by decide) (by decide)).mono ?_
  rintro e w1 ⟨rfl, hb1⟩
  go_wp2_with fail
  refine (next_any 4 6 false true false false _ (by decide) (by decide)).mono ?_
  rintro e w2 ⟨rfl, hb2⟩
  go_wp2_with fail
  refine (next_any 6 8 false false false false _ (by decide) (by decide)).mono ?_
  rintro e w3 ⟨rfl, hb3⟩
  go_wp2_with fail
  refine (next_any 7 10 false false false false _ (by decide) (by decide)).mono ?_
  rintro e w4 ⟨rfl, hb4⟩
  have hb : Below w.heap.size w w4 := ((hb1.trans (hb2.mono hb1.size)).trans (hb3.mono (Nat.le_trans hb1.size hb2.size))).trans (hb4.mono (Nat.le_trans (Nat.le_trans hb1.size hb2.size) hb3.size))
  go_wp2_with fail
  refine (word_any 5 _ (by omega) (by omega) (hw.below hb h0)).mono ?_
  rintro e w5 ⟨rfl, rfl⟩
  go_wp2
  go_ret
  exact ⟨rfl, hb⟩
end Go.Proofs.YtmfbkaepkooneaaDoor
