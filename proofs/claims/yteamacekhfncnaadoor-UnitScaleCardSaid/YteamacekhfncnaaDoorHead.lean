/-
  The head of the four laws: it answers true, where the units' table and the powers of ten stand. Nothing else is asked.
-/
import Derived.Test.YteamacekhfncnaaDoorRName
import Derived.Test.YteamacekhfncnaaDoorText
namespace Go.Proofs.YteamacekhfncnaaDoor
open Go.RowKit

theorem size_c (s : ByteArray) (w : World) {a b : Int} (hs : s.size ≤ 140737488351232) (hu : Units w) (ha : sizeV s.data.toList = a) (hb : sizeE s.data.toList = b) : Calls Tryd.prog 10 #[.string s] w fun e w' => e = .returned (.tuple #[.int .i64 a, .int .i64 b]) ∧ Below w.heap.size w w' ∧ Units w' := by
  subst ha hb
  exact (size_any s w hs hu).mono fun e w' ⟨h, k⟩ => ⟨h, k, hu.below k⟩
theorem stext_c (n : Int) (w : World) {t : List UInt8} (h0 : -9223372036854775808 ≤ n) (h1 : n ≤ 9223372036854775807) (hp : Pow w) (hu : Units w) (ht : sizeTextL n = t) : Calls Tryd.prog 15 #[.int .i64 n] w fun e w' => e = .returned (.string ⟨t.toArray⟩) ∧ Below w.heap.size w w' ∧ Units w' ∧ Pow w' := by
  subst ht
  exact (sizetext_any n w h0 h1 hp hu).mono fun e w' ⟨h, k⟩ => ⟨h, k, hu.below k, hp.below k⟩
theorem name_c (s : ByteArray) (w : World) {b : Bool} (hs : s.size ≤ 140737488351232) (hb : nameB s.data.toList = b) : Calls Tryd.prog 12 #[.string s] w fun e w' => e = .returned (.bool b) ∧ Below w.heap.size w w' := by
  subst hb
  exact name_any s w hs

example : sizeV [51, 75, 105, 66] = 3072 ∧ sizeE [51, 75, 105, 66] = 0 := by decide +kernel
example : sizeTextL 3072 = [51, 75, 105, 66] := by decide +kernel
example : nameB [97, 46, 98, 45, 99] = true := by decide +kernel

set_option maxRecDepth 100000 in
set_option maxHeartbeats 4000000 in
theorem head_any (w : World) (hp : Pow w) (hu : Units w) : Calls Tryd.prog 7 #[] w fun e w' => e = .returned (.bool true) ∧ Below w.heap.size w w' := by
  go_enter Tryd.func7, Tryd.ntmps7
  go_wp2_with fail
  refine (size_c _ _ (by decide) hu (show _ = 3072 by decide +kernel) (show _ = 0 by decide +kernel)).mono ?_
  rintro e w1 ⟨rfl, hb1, hu1⟩
  have hp1 := hp.below hb1
  clear hp hu
  go_wp2_with fail
  refine (size_c _ _ (by decide) hu1 (show _ = 2000 by decide +kernel) (show _ = 0 by decide +kernel)).mono ?_
  rintro e w2 ⟨rfl, hb2, hu2⟩
  have hp2 := hp1.below hb2
  have hc2 := below_next hb1 hb2
  clear hp1 hu1 hb1 hb2
  go_wp2_with fail
  refine (size_c _ _ (by decide) hu2 (show _ = 0 by decide +kernel) (show _ = 130 by decide +kernel)).mono ?_
  rintro e w3 ⟨rfl, hb3, hu3⟩
  have hp3 := hp2.below hb3
  have hc3 := below_next hc2 hb3
  clear hp2 hu2 hc2 hb3
  go_wp2_with fail
  refine (size_c _ _ (by decide) hu3 (show _ = 0 by decide +kernel) (show _ = 130 by decide +kernel)).mono ?_
  rintro e w4 ⟨rfl, hb4, hu4⟩
  have hp4 := hp3.below hb4
  have hc4 := below_next hc3 hb4
  clear hp3 hu3 hc3 hb4
  go_wp2_with fail
  refine (stext_c 3072 _ (by decide) (by decide) hp4 hu4 (show _ = [51, 75, 105, 66] by decide +kernel)).mono ?_
  rintro e w5 ⟨rfl, hb5, hu5, hp5⟩
  have hc5 := below_next hc4 hb5
  clear hp4 hu4 hc4 hb5
  go_wp2_with fail
  refine (stext_c 3000 _ (by decide) (by decide) hp5 hu5 (show _ = [51, 48, 48, 48] by decide +kernel)).mono ?_
  rintro e w6 ⟨rfl, hb6, hu6, hp6⟩
  have hc6 := below_next hc5 hb6
  clear hp5 hu5 hc5 hb6
  go_wp2_with fail
  refine (stext_c 1099511627776 _ (by decide) (by decide) hp6 hu6 (show _ = [49, 84, 105, 66] by decide +kernel)).mono ?_
  rintro e w7 ⟨rfl, hb7, hu7, hp7⟩
  have hc7 := below_next hc6 hb7
  clear hp6 hu6 hc6 hb7
  go_wp2_with fail
  refine (name_c _ _ (by decide) (show _ = true by decide +kernel)).mono ?_
  rintro e w8 ⟨rfl, hb8⟩
  have hc8 := below_next hc7 hb8
  clear hc7 hb8
  go_wp2_with fail
  refine (name_c _ _ (by decide) (show _ = false by decide +kernel)).mono ?_
  rintro e w9 ⟨rfl, hb9⟩
  have hc9 := below_next hc8 hb9
  clear hc8 hb9
  go_wp2_with fail
  refine (name_c _ _ (by decide) (show _ = false by decide +kernel)).mono ?_
  rintro e w10 ⟨rfl, hb10⟩
  have hc10 := below_next hc9 hb10
  clear hc9 hb10
  go_wp2_with fail
  go_ret
  exact ⟨rfl, hc10⟩
end Go.Proofs.YteamacekhfncnaaDoor
