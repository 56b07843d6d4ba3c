/-
  UnitNames, walked: it answers true for every string, where the units' table and the powers of ten stand. Nothing else is asked.
-/
import Derived.Test.YteamacekhfncnaaDoorHead
namespace Go.Proofs.YteamacekhfncnaaDoor
open Go.RowKit

theorem chk_app : ∀ (l r : List UInt8) (i : Nat), chkL i (l ++ r) = (chkL i l && chkL (i + l.length) r)
  | [], r, i => by simp [chkL]
  | b :: l, r, i => by
    simp only [List.cons_append, chkL, chk_app l r (i + 1), List.length_cons, Bool.and_assoc]
    rw [show i + 1 + l.length = i + (l.length + 1) by omega]
theorem name_a (l : List UInt8) : nameB (l ++ [97]) = (chkL 0 l && decide (l.length < 32)) := by
  unfold nameB
  rw [chk_app]
  have : ∀ i, chkL i [97] = true := fun i => by
    have := (chOk_iff i 97).2 (by omega)
    simp only [chkL, Bool.and_true]
    exact this
  rw [this, Bool.and_true, List.length_append]
  congr 1
theorem name_true {l : List UInt8} (h : nameB l = true) : chkL 0 l = true ∧ 1 ≤ l.length ∧ l.length ≤ 32 := by
  unfold nameB at h
  simp only [Bool.and_eq_true, decide_eq_true_eq] at h
  exact h
theorem name_take {l : List UInt8} (h : nameB l = true) (h2 : l.length ≠ 1) : nameB (l.take (l.length - 1)) = true := by
  obtain ⟨a, b, c⟩ := name_true h
  have hs := List.take_append_drop (l.length - 1) l
  rw [← hs, chk_app] at a
  simp only [Bool.and_eq_true] at a
  unfold nameB
  rw [a.1]
  simp; omega
theorem name_byte {s : ByteArray} (h : nameB s.data.toList = true) {i : Nat} (hi : i < s.size) : chOk i s[i].toNat = true := by
  obtain ⟨a, b, c⟩ := name_true h
  have hs := List.take_append_drop i s.data.toList
  rw [← hs, chk_app] at a
  simp only [Bool.and_eq_true] at a
  have e : 0 + (s.data.toList.take i).length = i := by simp; omega
  rw [e, chk_at s i hi] at a
  simp only [Bool.and_eq_true] at a
  exact a.2.1

set_option maxRecDepth 100000 in
set_option maxHeartbeats 4000000 in
theorem names_any (s : ByteArray) (w : World) (hp : Pow w) (hu : Units w) : Calls Tryd.prog 6 #[.string s] w fun e w' => e = .returned (.bool true) ∧ Below w.heap.size w w' := by
  by_cases h2 : 200 < s.size
  · go_enter Tryd.func6, Tryd.ntmps6
    go_wp2_with fail
    refine (head_any _ hp hu).mono ?_
    rintro e w1 ⟨rfl, hb1⟩
    go_wp2
    go_ret
    exact ⟨rfl, hb1⟩
  · have hs : s.size ≤ 140737488351232 := by omega
    have hcat : (s ++ (⟨#[97]⟩ : ByteArray)).data.toList = s.data.toList ++ [97] := by simp
    have hna : nameB (s ++ (⟨#[97]⟩ : ByteArray)).data.toList = (chkL 0 s.data.toList && decide (s.size < 32)) := by
      rw [hcat, name_a]; simp
    have hsz : (s ++ (⟨#[97]⟩ : ByteArray)).size ≤ 140737488351232 := by rw [ByteArray.size_append, show (⟨#[97]⟩ : ByteArray).size = 1 from rfl]; omega
    have HNA := Lib.hid hna
    have HSZ := Lib.hid hsz
    clear hna hcat hsz
    have hl : s.data.toList.length = s.size := by simp
    have hl : s.data.toList.length = s.size := by simp
    cases hn : nameB s.data.toList with
    | false =>
      by_cases hz : s.size = 0
      · obtain rfl : s = ByteArray.empty := by
          apply ByteArray.ext
          exact Array.eq_empty_of_size_eq_zero hz
        have HN := Lib.hid hn
        clear hn
        go_enter Tryd.func6, Tryd.ntmps6
        go_wp2_with fail
        refine (name_c _ _ hs HN.out).mono ?_
        rintro e w1 ⟨rfl, hb1⟩
        go_wp2_with fail
        refine (head_any _ (hp.below hb1) (hu.below hb1)).mono ?_
        rintro e w2 ⟨rfl, hb2⟩
        have hb := below_next hb1 hb2
        clear hb1 hb2
        go_wp2
        go_ret
        exact ⟨rfl, hb⟩
      · have hz' : ¬ s = ByteArray.empty := fun h => hz (by rw [h]; rfl)
        have hb' : nameB (s ++ (⟨#[97]⟩ : ByteArray)).data.toList = false := by
          rw [HNA.out]
          unfold nameB at hn
          rw [hl, decide_eq_true (show 1 ≤ s.size by omega), Bool.true_and] at hn
          cases hc : chkL 0 s.data.toList with
          | false => rfl
          | true =>
            rw [hc, Bool.true_and, decide_eq_false_iff_not] at hn
            rw [decide_eq_false (by omega)]; rfl
        have HB := Lib.hid hb'
        have HN := Lib.hid hn
        clear hn hb' hl
        go_enter Tryd.func6, Tryd.ntmps6
        go_wp2_with fail
        refine (name_c s _ hs HN.out).mono ?_
        rintro e w1 ⟨rfl, hb1⟩
        go_wp2_with fail
        refine (name_c _ _ HSZ.out HB.out).mono ?_
        rintro e w2 ⟨rfl, hb2⟩
        have hb := below_next hb1 hb2
        clear hb1 hb2
        go_wp2_with fail
        refine (head_any _ (hp.below hb) (hu.below hb)).mono ?_
        rintro e w3 ⟨rfl, hb3⟩
        have hc := below_next hb hb3
        clear hb hb3
        go_wp2
        go_ret
        exact ⟨rfl, hc⟩
    | true =>
      have hb' : nameB (s ++ (⟨#[97]⟩ : ByteArray)).data.toList = decide (s.size < 32) := by
        rw [HNA.out, (name_true hn).1]; rfl
      have h1 := (name_true hn).2
      rw [hl] at h1
      obtain ⟨h1, h32⟩ := h1
      have hbyte : ∀ i (hi : i < s.size), (97 ≤ (s[i].toNat : Int) ∧ (s[i].toNat : Int) ≤ 122) ∨ (65 ≤ (s[i].toNat : Int) ∧ (s[i].toNat : Int) ≤ 90) ∨ (48 ≤ (s[i].toNat : Int) ∧ (s[i].toNat : Int) ≤ 57) ∨ (s[i].toNat : Int) = 95 ∨ (0 < i ∧ ((s[i].toNat : Int) = 45 ∨ (s[i].toNat : Int) = 46)) := fun i hi => (chOk_iff _ _).1 (name_byte hn hi)
      have htk : s.size ≠ 1 → nameB (s.extract 0 (s.size - 1)).data.toList = true := fun h => by
        have := name_take hn (by rw [hl]; exact h)
        rw [hl] at this
        have h5 : (s.extract 0 (s.size - 1)).data.toList = s.data.toList.take (s.size - 1) := by
          rw [ByteArray.data_extract, Array.toList_extract]; simp only [List.extract_eq_take_drop, List.drop_zero, Nat.sub_zero]
        rw [h5]
        exact this
      have HB := Lib.hid hb'
      have HT := Lib.hid htk
      have HY := Lib.hid hbyte
      have HN := Lib.hid hn
      clear hn hb' htk hbyte hl
      go_enter Tryd.func6, Tryd.ntmps6
      go_wp2_with fail
      refine (name_c s _ hs HN.out).mono ?_
      rintro e w1 ⟨rfl, hb1⟩
      go_wp2_with fail
      go_loop [3] (fun i => ∃ (pos : Nat), i = .int .i64 pos ∧ pos ≤ s.size) (fun i => s.size - (intOf i).toNat)
      case atStart => exact ⟨0, rfl, Nat.zero_le _⟩
      case round =>
        obtain ⟨pos, rfl, hle⟩ := hrel
        by_cases hlt : pos < s.size
        · have hc := HY.out pos hlt
          have y1 : ((s[pos].toNat : Int) == 32) = false := by rw [beq_eq_false_iff_ne]; omega
          have y2 : ((s[pos].toNat : Int) == 61) = false := by rw [beq_eq_false_iff_ne]; omega
          have y3 : ((s[pos].toNat : Int) == 10) = false := by rw [beq_eq_false_iff_ne]; omega
          have y4 : ((s[pos].toNat : Int) == 44) = false := by rw [beq_eq_false_iff_ne]; omega
          have y5 : ((s[pos].toNat : Int) == 58) = false := by rw [beq_eq_false_iff_ne]; omega
          have y6 : ¬ 128 ≤ (s[pos].toNat : Int) := by omega
          clear hc
          go_wp2
          exact ⟨⟨pos + 1, rfl, by omega⟩, by simp [intOf]; omega⟩
        · obtain rfl : pos = s.size := by omega
          by_cases hone : s.size = 1
          · have ho : ((s.size : Int) == 1) = true := by rw [hone]; rfl
            have hd : decide (s.size < 32) = true := by rw [hone]; rfl
            rw [hd] at HB
            have hd2 : (s.size : Int) < 32 := by omega
            clear hd hone
            go_wp2_with fail
            refine (name_c _ _ HSZ.out HB.out).mono ?_
            rintro e w2 ⟨rfl, hb2⟩
            have hb := below_next hb1 hb2
            clear hb1 hb2
            go_wp2_with fail
            refine (head_any _ (hp.below hb) (hu.below hb)).mono ?_
            rintro e w3 ⟨rfl, hb3⟩
            have hc := below_next hb hb3
            clear hb hb3
            go_wp2
            go_ret
            exact ⟨rfl, hc⟩
          · have HT2 := Lib.hid (HT.out hone)
            have ho : ((s.size : Int) == 1) = false := by rw [beq_eq_false_iff_ne]; omega
            go_wp2_with fail
            refine (name_c _ _ (by rw [ByteArray.size_extract]; omega) HT2.out).mono ?_
            rintro e w2 ⟨rfl, hb2⟩
            have hb := below_next hb1 hb2
            clear hb1 hb2
            go_wp2_with fail
            refine (name_c _ _ HSZ.out HB.out).mono ?_
            rintro e w3 ⟨rfl, hb3⟩
            have hc := below_next hb hb3
            clear hb hb3
            have heq : (decide (s.size < 32) == decide ((s.size : Int) < 32)) = true := by
              rw [beq_iff_eq, decide_eq_decide]; omega
            go_wp2_with fail
            refine (head_any _ (hp.below hc) (hu.below hc)).mono ?_
            rintro e w4 ⟨rfl, hb4⟩
            have hd := below_next hc hb4
            clear hc hb4
            go_wp2
            go_ret
            exact ⟨rfl, hd⟩
end Go.Proofs.YteamacekhfncnaaDoor
