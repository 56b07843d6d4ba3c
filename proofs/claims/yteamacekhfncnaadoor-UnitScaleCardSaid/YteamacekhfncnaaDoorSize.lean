/-
  unit.Size: it answers what the plain functions say, for every string, where the units' table stands. Condition: the string is no longer than a Go string can be.
-/
import Derived.Test.YteamacekhfncnaaDoorSizeP
import Derived.Lib.IndexBytes
namespace Go.Proofs.YteamacekhfncnaaDoor
open Go.RowKit

theorem size_no {l : List UInt8} (h : okAt (headD l) (tailD l) = false) : sizeV l = 0 ∧ sizeE l = 130 := by simp [sizeV, sizeE, h]
theorem size_yes {l : List UInt8} (h : okAt (headD l) (tailD l) = true) : sizeV l = val (headD l) * byU (tailD l) ∧ sizeE l = 0 := by simp [sizeV, sizeE, h]
theorem size_no' {l : List UInt8} (h : okAt (Lib.trimRightS l lets) (l.drop (Lib.trimRightS l lets).length) = false) : sizeV l = 0 ∧ sizeE l = 130 := size_no (by rw [← okAt_same]; exact h)
theorem size_yes' {l : List UInt8} (h : okAt (Lib.trimRightS l lets) (l.drop (Lib.trimRightS l lets).length) = true) : sizeV l = val (Lib.trimRightS l lets) * byU (l.drop (Lib.trimRightS l lets).length) ∧ sizeE l = 0 := by
  obtain ⟨e1, e2⟩ := okAt_value h
  rw [e2, e1]
  exact size_yes (by rw [← okAt_same]; exact h)

theorem tail_empty (s : ByteArray) (k : Nat) : (s.extract k s.size).toList.isEmpty = (s.data.toList.drop k).isEmpty := by
  rw [ByteArray.toList_eq, Lib.extract_to_end]
theorem number_l (P : List UInt8) (w : World) {a b : Int} (hs : P.length ≤ 140737488351232) (ha : numV P = a) (hb : numE P = b) : Calls Tryd.prog 8 #[.string ⟨P.toArray⟩] w fun e w' => e = .returned (.tuple #[.int .i64 a, .int .i64 b]) ∧ Below w.heap.size w w' := by
  subst ha hb
  exact number_any ⟨P.toArray⟩ w hs
set_option maxHeartbeats 400000 in
/-- No unit: the number alone. -/
theorem size_bare (s : ByteArray) (w : World) (hs : s.size ≤ 140737488351232) (hn : s.data.toList.drop (Lib.trimRightS s.data.toList lets).length = []) : Calls Tryd.prog 10 #[.string s] w fun e w' => e = .returned (.tuple #[.int .i64 (sizeV s.data.toList), .int .i64 (sizeE s.data.toList)]) ∧ Below w.heap.size w w' := by
  have hle := trimRight_len s.data.toList [75, 77, 71, 84, 105, 66]
  have hsz : s.data.toList.length = s.size := by simp
  rw [hsz] at hle
  clear hsz
  have hk : okN (Lib.trimRightS s.data.toList lets) = false → sizeV s.data.toList = 0 ∧ sizeE s.data.toList = 130 := fun h => size_no' (by rw [hn]; unfold okAt; rw [h]; rfl)
  have hk' : okN (Lib.trimRightS s.data.toList lets) = true → sizeV s.data.toList = (val (Lib.trimRightS s.data.toList lets) : Int) ∧ sizeE s.data.toList = 0 := fun h => by
    have h2 := size_yes' (l := s.data.toList) (by
      rw [hn]; unfold okAt; rw [h]
      have : val (Lib.trimRightS s.data.toList lets) ≤ top := by
        unfold okN at h; simp only [Bool.and_eq_true, decide_eq_true_eq] at h; exact h.2
      have e1 : byU [] = 1 := rfl
      rw [e1]
      unfold top at this
      simp; omega)
    rw [hn, show byU [] = 1 from rfl, Int.mul_one] at h2; exact h2
  have he := tail_empty s (Lib.trimRightS s.data.toList lets).length
  rw [hn] at he
  have he' : (s.extract (Lib.trimRightS s.data.toList [75, 77, 71, 84, 105, 66]).length s.size).toList.isEmpty = true := he
  have hb : okN (Lib.trimRightS s.data.toList lets) = true → val (Lib.trimRightS s.data.toList lets) ≤ top := fun h => by
    unfold okN at h; simp only [Bool.and_eq_true, decide_eq_true_eq] at h; exact h.2
  clear he hn
  unfold lets at *
  generalize hP : Lib.trimRightS s.data.toList [75, 77, 71, 84, 105, 66] = P at *
  cases hok : okN P with
  | false =>
    obtain ⟨e1, e2⟩ := hk hok
    rw [e1, e2]
    obtain ⟨n1, n2⟩ := num_no hok
    clear hk hk' hb e1 e2
    go_enter Tryd.func10, Tryd.ntmps10
    go_wp2_with fail
    refine (Any.strings_TrimRight_laid Tryd.lays162 (by kernel_rfl) _ _ _ (by omega) (by decide) (ascii_of_all (by decide))).mono ?_
    rintro e w1 ⟨rfl, hb1⟩
    rw [hP]
    go_wp2_with fail
    refine (number_l P _ (by omega) n1 n2).mono ?_
    rintro e w2 ⟨rfl, hb2⟩
    have hb := below_next hb1 hb2
    clear hb1 hb2
    go_wp2
    go_ret2
    exact ⟨rfl, hb⟩
  | true =>
    obtain ⟨e1, e2⟩ := hk' hok
    rw [e1, e2]
    obtain ⟨n1, n2⟩ := num_yes hok
    have hb' := hb hok
    clear hk hk' hb e1 e2
    generalize val P = v at *
    unfold top at hb'
    go_enter Tryd.func10, Tryd.ntmps10
    go_wp2_with fail
    refine (Any.strings_TrimRight_laid Tryd.lays162 (by kernel_rfl) _ _ _ (by omega) (by decide) (ascii_of_all (by decide))).mono ?_
    rintro e w1 ⟨rfl, hb1⟩
    rw [hP]
    go_wp2_with fail
    refine (number_l P _ (by omega) n1 n2).mono ?_
    rintro e w2 ⟨rfl, hb2⟩
    have hb := below_next hb1 hb2
    clear hb1 hb2
    go_wp2
    go_ret2
    exact ⟨rfl, hb⟩

set_option maxRecDepth 100000 in
set_option maxHeartbeats 400000 in
/-- What is no unit. -/
theorem size_none (s : ByteArray) (w : World) (hs : s.size ≤ 140737488351232) (hu : Units w) (hn : ¬ s.data.toList.drop (Lib.trimRightS s.data.toList lets).length = []) (hz : byU (s.data.toList.drop (Lib.trimRightS s.data.toList lets).length) = 0) : Calls Tryd.prog 10 #[.string s] w fun e w' => e = .returned (.tuple #[.int .i64 (sizeV s.data.toList), .int .i64 (sizeE s.data.toList)]) ∧ Below w.heap.size w w' := by
  have hle := trimRight_len s.data.toList [75, 77, 71, 84, 105, 66]
  have hsz : s.data.toList.length = s.size := by simp
  rw [hsz] at hle
  clear hsz
  obtain ⟨e1, e2⟩ := size_no' (l := s.data.toList) (by unfold okAt; rw [hz]; simp)
  rw [e1, e2]
  have he := tail_empty s (Lib.trimRightS s.data.toList lets).length
  rw [show (s.data.toList.drop (Lib.trimRightS s.data.toList lets).length).isEmpty = false from by simpa using hn] at he
  have hU := Lib.extract_to_end s (Lib.trimRightS s.data.toList lets).length
  rw [← hU] at hz hn
  have hsU : (s.extract (Lib.trimRightS s.data.toList lets).length s.size).size ≤ maxLen := by
    have h1 := congrArg List.length hU
    simp only [List.length_drop] at h1
    have h2 : (s.extract (Lib.trimRightS s.data.toList lets).length s.size).data.toList.length = (s.extract (Lib.trimRightS s.data.toList lets).length s.size).size := by simp
    have h3 : s.data.toList.length = s.size := by simp
    have h4 : maxLen = 9223372036854775807 := rfl
    rw [h4]
    omega
  clear hU e1 e2
  unfold lets at *
  generalize hP : Lib.trimRightS s.data.toList [75, 77, 71, 84, 105, 66] = P at *
  have HZ := Lib.hid hz
  have HN := Lib.hid hn
  have HS := Lib.hid hsU
  clear hz hn hsU
  go_enter Tryd.func10, Tryd.ntmps10
  go_wp2_with fail
  refine (Any.strings_TrimRight_laid Tryd.lays162 (by kernel_rfl) _ _ _ (by omega) (by decide) (ascii_of_all (by decide))).mono ?_
  rintro e w1 ⟨rfl, hb1⟩
  rw [hP]
  obtain ⟨bm, hc, hl⟩ := (hu.below hb1).look _ HN.out HS.out
  rw [HZ.out] at hl
  have he2 : (!(s.extract P.length s.size).toList.isEmpty) = true := by rw [he]; rfl
  go_wp2_with fail
  go_ret2
  exact ⟨rfl, hb1⟩

set_option maxRecDepth 100000 in
set_option maxHeartbeats 800000 in
/-- A unit. -/
theorem size_unit (s : ByteArray) (w : World) (hs : s.size ≤ 140737488351232) (hu : Units w) (hn : ¬ s.data.toList.drop (Lib.trimRightS s.data.toList lets).length = []) (hz : byU (s.data.toList.drop (Lib.trimRightS s.data.toList lets).length) ≠ 0) : Calls Tryd.prog 10 #[.string s] w fun e w' => e = .returned (.tuple #[.int .i64 (sizeV s.data.toList), .int .i64 (sizeE s.data.toList)]) ∧ Below w.heap.size w w' := by
  have hle := trimRight_len s.data.toList [75, 77, 71, 84, 105, 66]
  have hsz : s.data.toList.length = s.size := by simp
  rw [hsz] at hle
  clear hsz
  obtain ⟨hb1, hb2⟩ := byU_bd hz
  have hk : okN (Lib.trimRightS s.data.toList lets) = false → sizeV s.data.toList = 0 ∧ sizeE s.data.toList = 130 := fun h => size_no' (by unfold okAt; rw [h]; rfl)
  have hk1 : ¬ (val (Lib.trimRightS s.data.toList lets) : Int) ≤ 1099511627776 / byU (s.data.toList.drop (Lib.trimRightS s.data.toList lets).length) → sizeV s.data.toList = 0 ∧ sizeE s.data.toList = 130 := fun h => size_no' (by unfold okAt; rw [decide_eq_false h]; simp)
  have hk2 : okN (Lib.trimRightS s.data.toList lets) = true → (val (Lib.trimRightS s.data.toList lets) : Int) ≤ 1099511627776 / byU (s.data.toList.drop (Lib.trimRightS s.data.toList lets).length) → sizeV s.data.toList = (val (Lib.trimRightS s.data.toList lets) : Int) * byU (s.data.toList.drop (Lib.trimRightS s.data.toList lets).length) ∧ sizeE s.data.toList = 0 := fun h1 h2 =>
    size_yes' (by unfold okAt; rw [decide_eq_true h2, h1]; simpa using hz)
  have he := tail_empty s (Lib.trimRightS s.data.toList lets).length
  rw [show (s.data.toList.drop (Lib.trimRightS s.data.toList lets).length).isEmpty = false from by simpa using hn] at he
  have hU := Lib.extract_to_end s (Lib.trimRightS s.data.toList lets).length
  have hm : byU (s.extract (Lib.trimRightS s.data.toList lets).length s.size).data.toList = byU (s.data.toList.drop (Lib.trimRightS s.data.toList lets).length) := by rw [hU]
  rw [← hU] at hn
  have hsU : (s.extract (Lib.trimRightS s.data.toList lets).length s.size).size ≤ maxLen := by
    have h1 := congrArg List.length hU
    simp only [List.length_drop] at h1
    have h2 : (s.extract (Lib.trimRightS s.data.toList lets).length s.size).data.toList.length = (s.extract (Lib.trimRightS s.data.toList lets).length s.size).size := by simp
    have h3 : s.data.toList.length = s.size := by simp
    have h4 : maxLen = 9223372036854775807 := rfl
    rw [h4]
    omega
  clear hU
  unfold lets at *
  generalize hP : Lib.trimRightS s.data.toList [75, 77, 71, 84, 105, 66] = P at *
  generalize byU (s.data.toList.drop P.length) = b at *
  have hdiv : (1099511627776 : Int).tdiv b = 1099511627776 / b := Int.tdiv_eq_ediv_of_nonneg (by omega)
  have hd0 : 0 ≤ 1099511627776 / b ∧ 1099511627776 / b ≤ 1099511627776 := ⟨Int.ediv_nonneg (by omega) (by omega), Int.ediv_le_self _ (by omega)⟩
  have hmul : (1099511627776 / b) * b ≤ 1099511627776 := Int.ediv_mul_le _ (by omega)
  have hz0 : (b == 0) = false := by rw [beq_eq_false_iff_ne]; exact hz
  have hb : ∀ v : Int, 0 ≤ v → v ≤ 1099511627776 / b → 0 ≤ v * b ∧ v * b ≤ 1099511627776 := fun v h0 h => ⟨Int.mul_nonneg h0 (by omega), Int.le_trans (Int.mul_le_mul_of_nonneg_right h (by omega)) hmul⟩
  have he2 : (!(s.extract P.length s.size).toList.isEmpty) = true := by rw [he]; rfl
  have hv := Int.natCast_nonneg (val P)
  have HB := Lib.hid hb
  have HK1 := Lib.hid hk1
  have HK2 := Lib.hid hk2
  have HN := Lib.hid hn
  have HS := Lib.hid hsU
  have HD := Lib.hid hdiv
  obtain ⟨hd0, hd1⟩ := hd0
  clear hb hk1 hk2 hmul hz hn hsU he hdiv
  cases hok : okN P with
  | false =>
    obtain ⟨e1, e2⟩ := hk hok
    rw [e1, e2]
    obtain ⟨n1, n2⟩ := num_no hok
    clear hk e1 e2 hok
    go_enter Tryd.func10, Tryd.ntmps10
    go_wp2_with fail
    refine (Any.strings_TrimRight_laid Tryd.lays162 (by kernel_rfl) _ _ _ (by omega) (by decide) (ascii_of_all (by decide))).mono ?_
    rintro e w1 ⟨rfl, hb1⟩
    rw [hP]
    obtain ⟨bm, hc, hl⟩ := (hu.below hb1).look _ HN.out HS.out
    rw [hm] at hl
    go_wp2_with fail
    refine (number_l P _ (by omega) n1 n2).mono ?_
    rintro e w2 ⟨rfl, hb2⟩
    have hb := below_next hb1 hb2
    clear hb1 hb2
    go_wp2
    go_ret2
    exact ⟨rfl, hb⟩
  | true =>
    clear hk
    obtain ⟨n1, n2⟩ := num_yes hok
    have HO := Lib.hid hok
    clear hok
    generalize (val P : Int) = v at *
    by_cases hvb : v ≤ 1099511627776 / b
    · obtain ⟨e1, e2⟩ := HK2.out HO.out hvb
      rw [e1, e2]
      obtain ⟨m1, m2⟩ := HB.out v hv hvb
      clear e1 e2
      have hnb : ¬ (1099511627776 : Int).tdiv b < v := by rw [HD.out]; omega
      go_enter Tryd.func10, Tryd.ntmps10
      go_wp2_with fail
      refine (Any.strings_TrimRight_laid Tryd.lays162 (by kernel_rfl) _ _ _ (by omega) (by decide) (ascii_of_all (by decide))).mono ?_
      rintro e w1 ⟨rfl, hb1⟩
      rw [hP]
      obtain ⟨bm, hc, hl⟩ := (hu.below hb1).look _ HN.out HS.out
      rw [hm] at hl
      go_wp2_with fail
      refine (number_l P _ (by omega) n1 n2).mono ?_
      rintro e w2 ⟨rfl, hb2⟩
      have hb := below_next hb1 hb2
      clear hb1 hb2
      go_wp2
      go_ret2
      exact ⟨rfl, hb⟩
    · obtain ⟨e1, e2⟩ := HK1.out hvb
      rw [e1, e2]
      clear e1 e2
      have hnb : (1099511627776 : Int).tdiv b < v := by rw [HD.out]; omega
      go_enter Tryd.func10, Tryd.ntmps10
      go_wp2_with fail
      refine (Any.strings_TrimRight_laid Tryd.lays162 (by kernel_rfl) _ _ _ (by omega) (by decide) (ascii_of_all (by decide))).mono ?_
      rintro e w1 ⟨rfl, hb1⟩
      rw [hP]
      obtain ⟨bm, hc, hl⟩ := (hu.below hb1).look _ HN.out HS.out
      rw [hm] at hl
      go_wp2_with fail
      refine (number_l P _ (by omega) n1 n2).mono ?_
      rintro e w2 ⟨rfl, hb2⟩
      have hb := below_next hb1 hb2
      clear hb1 hb2
      go_wp2
      go_ret2
      exact ⟨rfl, hb⟩

theorem size_any (s : ByteArray) (w : World) (hs : s.size ≤ 140737488351232) (hu : Units w) : Calls Tryd.prog 10 #[.string s] w fun e w' => e = .returned (.tuple #[.int .i64 (sizeV s.data.toList), .int .i64 (sizeE s.data.toList)]) ∧ Below w.heap.size w w' := by
  by_cases hn : s.data.toList.drop (Lib.trimRightS s.data.toList lets).length = []
  · exact size_bare s w hs hn
  · by_cases hz : byU (s.data.toList.drop (Lib.trimRightS s.data.toList lets).length) = 0
    · exact size_none s w hs hu hn hz
    · exact size_unit s w hs hu hn hz
end Go.Proofs.YteamacekhfncnaaDoor
