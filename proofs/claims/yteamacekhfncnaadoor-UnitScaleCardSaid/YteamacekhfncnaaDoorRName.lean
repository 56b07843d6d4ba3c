/-
  The reference's Name: it answers what the plain function says, for every string. Condition: the string is no longer than a Go string can be.
-/
import Derived.Test.YteamacekhfncnaaDoorName
namespace Go.Proofs.YteamacekhfncnaaDoor
open Go.RowKit

set_option maxRecDepth 100000 in
set_option maxHeartbeats 4000000 in
theorem rname_any (s : ByteArray) (w : World) (hs : s.size ≤ 140737488351232) : Calls Tryd.prog 13 #[.string s] w fun e w' => e = .returned (.bool (nameB s.data.toList)) ∧ w = w' := by
  have hno : chkL 0 s.data.toList = false → nameB s.data.toList = false := fun h => by unfold nameB; rw [h]; rfl
  have HNO := Lib.hid hno
  clear hno
  go_enter Tryd.func13, Tryd.ntmps13
  go_wp2
  go_loop [3] (fun i => ∃ (pos : Nat), i = .int .i64 pos ∧ pos ≤ s.size ∧ chkL pos (s.data.toList.drop pos) = chkL 0 s.data.toList) (fun i => s.size - (intOf i).toNat)
  case atStart => exact ⟨0, rfl, Nat.zero_le _, rfl⟩
  case round =>
    obtain ⟨pos, rfl, hle, hc⟩ := hrel
    have HC := Lib.hid hc
    clear hc
    by_cases hp : pos < s.size
    · have hk := chk_at s pos hp
      rw [HC.out] at hk
      have hgo : chOk pos s[pos].toNat = true → chkL (pos + 1) (s.data.toList.drop (pos + 1)) = chkL 0 s.data.toList := fun h => by rw [h] at hk; exact hk.symm
      have hst : chOk pos s[pos].toNat = false → nameB s.data.toList = false := fun h => HNO.out (by rw [hk, h]; rfl)
      have HGO := Lib.hid hgo
      have HST := Lib.hid hst
      have hc0 : 0 ≤ (s[pos].toNat : Int) := by omega
      clear hgo hst hk HC HNO
      generalize hcc : (s[pos].toNat : Int) = c at *
      by_cases hok : (97 ≤ c ∧ c ≤ 122) ∨ (65 ≤ c ∧ c ≤ 90) ∨ (48 ≤ c ∧ c ≤ 57) ∨ c = 95 ∨ (0 < pos ∧ (c = 45 ∨ c = 46))
      · have hn := HGO.out ((chOk_iff pos c).2 hok)
        have HN := Lib.hid hn
        clear hn HGO HST
        rcases hok with h | h | h | h | ⟨h0, h | h⟩
        · first | have a1 : 97 ≤ c := by omega | have a1 : ¬ 97 ≤ c := by omega
          first | have a2 : c ≤ 122 := by omega | have a2 : ¬ c ≤ 122 := by omega
          first | have a3 : 65 ≤ c := by omega | have a3 : ¬ 65 ≤ c := by omega
          first | have a4 : c ≤ 90 := by omega | have a4 : ¬ c ≤ 90 := by omega
          first | have a5 : 48 ≤ c := by omega | have a5 : ¬ 48 ≤ c := by omega
          first | have a6 : c ≤ 57 := by omega | have a6 : ¬ c ≤ 57 := by omega
          first | have a7 : (c == 95) = false := by { rw [beq_eq_false_iff_ne]; omega } | skip
          first | have a8 : (c != 45) = true := by { rw [bne_iff_ne]; omega } | skip
          first | have a9 : (c != 46) = true := by { rw [bne_iff_ne]; omega } | skip
          go_wp2
          exact ⟨⟨pos + 1, rfl, by omega, HN.out⟩, by simp [intOf]; omega⟩
        · first | have a1 : 97 ≤ c := by omega | have a1 : ¬ 97 ≤ c := by omega
          first | have a2 : c ≤ 122 := by omega | have a2 : ¬ c ≤ 122 := by omega
          first | have a3 : 65 ≤ c := by omega | have a3 : ¬ 65 ≤ c := by omega
          first | have a4 : c ≤ 90 := by omega | have a4 : ¬ c ≤ 90 := by omega
          first | have a5 : 48 ≤ c := by omega | have a5 : ¬ 48 ≤ c := by omega
          first | have a6 : c ≤ 57 := by omega | have a6 : ¬ c ≤ 57 := by omega
          first | have a7 : (c == 95) = false := by { rw [beq_eq_false_iff_ne]; omega } | skip
          first | have a8 : (c != 45) = true := by { rw [bne_iff_ne]; omega } | skip
          first | have a9 : (c != 46) = true := by { rw [bne_iff_ne]; omega } | skip
          go_wp2
          exact ⟨⟨pos + 1, rfl, by omega, HN.out⟩, by simp [intOf]; omega⟩
        · have hdg : digI c = true := by unfold digI; rw [decide_eq_true h.1, decide_eq_true h.2]; rfl
          first | have a1 : 97 ≤ c := by omega | have a1 : ¬ 97 ≤ c := by omega
          first | have a2 : c ≤ 122 := by omega | have a2 : ¬ c ≤ 122 := by omega
          first | have a3 : 65 ≤ c := by omega | have a3 : ¬ 65 ≤ c := by omega
          first | have a4 : c ≤ 90 := by omega | have a4 : ¬ c ≤ 90 := by omega
          first | have a5 : 48 ≤ c := by omega | have a5 : ¬ 48 ≤ c := by omega
          first | have a6 : c ≤ 57 := by omega | have a6 : ¬ c ≤ 57 := by omega
          first | have a7 : (c == 95) = false := by { rw [beq_eq_false_iff_ne]; omega } | skip
          first | have a8 : (c != 45) = true := by { rw [bne_iff_ne]; omega } | skip
          first | have a9 : (c != 46) = true := by { rw [bne_iff_ne]; omega } | skip
          go_wp2_with fail
          refine (digit_any _ _).mono ?_
          rintro e w' ⟨rfl, rfl⟩
          go_wp2
          exact ⟨⟨pos + 1, rfl, by omega, HN.out⟩, by simp [intOf]; omega⟩
        all_goals
          subst h
          try (have hp0 : ((pos : Int) == 0) = false := by rw [beq_eq_false_iff_ne]; omega)
          have d1 : digI 95 = false := by decide
          have d2 : digI 45 = false := by decide
          have d3 : digI 46 = false := by decide
          go_wp2_with fail
          refine (digit_any _ _).mono ?_
          rintro e w' ⟨rfl, rfl⟩
          go_wp2
          exact ⟨⟨pos + 1, rfl, by omega, HN.out⟩, by simp [intOf]; omega⟩
      · have hn := HST.out (chOk_no hok)
        have HNM := Lib.hid hn
        clear hn HGO HST
        have hdg : digI c = false := by
          rw [Bool.eq_false_iff]; intro h
          unfold digI at h
          simp only [Bool.and_eq_true, decide_eq_true_eq] at h
          omega
        rcases (show (c < 45 ∨ c = 47 ∨ (57 < c ∧ c < 65) ∨ (90 < c ∧ c < 95) ∨ c = 96 ∨ (122 < c)) ∨ (pos = 0 ∧ c = 45) ∨ (pos = 0 ∧ c = 46) by omega) with h | ⟨h0, h⟩ | ⟨h0, h⟩
        · by_cases hp0 : pos = 0
          · subst hp0
            clear hok
            rcases h with h | h | h | h | h | h
            all_goals
              first | have a1 : 97 ≤ c := by omega | have a1 : ¬ 97 ≤ c := by omega
              first | have a2 : c ≤ 122 := by omega | have a2 : ¬ c ≤ 122 := by omega
              first | have a3 : 65 ≤ c := by omega | have a3 : ¬ 65 ≤ c := by omega
              first | have a4 : c ≤ 90 := by omega | have a4 : ¬ c ≤ 90 := by omega
              first | have a5 : 48 ≤ c := by omega | have a5 : ¬ 48 ≤ c := by omega
              first | have a6 : c ≤ 57 := by omega | have a6 : ¬ c ≤ 57 := by omega
              first | have a7 : (c == 95) = false := by { rw [beq_eq_false_iff_ne]; omega } | skip
              first | have a8 : (c != 45) = true := by { rw [bne_iff_ne]; omega } | skip
              first | have a9 : (c != 46) = true := by { rw [bne_iff_ne]; omega } | skip
              go_wp2_with fail
              refine (digit_any _ _).mono ?_
              rintro e w' ⟨rfl, rfl⟩
              go_wp2
              go_ret
              exact ⟨ret_bool HNM.out.symm, rfl⟩
          · have hp0' : ((pos : Int) == 0) = false := by rw [beq_eq_false_iff_ne]; omega
            clear hok
            rcases h with h | h | h | h | h | h
            all_goals
              first | have a1 : 97 ≤ c := by omega | have a1 : ¬ 97 ≤ c := by omega
              first | have a2 : c ≤ 122 := by omega | have a2 : ¬ c ≤ 122 := by omega
              first | have a3 : 65 ≤ c := by omega | have a3 : ¬ 65 ≤ c := by omega
              first | have a4 : c ≤ 90 := by omega | have a4 : ¬ c ≤ 90 := by omega
              first | have a5 : 48 ≤ c := by omega | have a5 : ¬ 48 ≤ c := by omega
              first | have a6 : c ≤ 57 := by omega | have a6 : ¬ c ≤ 57 := by omega
              first | have a7 : (c == 95) = false := by { rw [beq_eq_false_iff_ne]; omega } | skip
              first | have a8 : (c != 45) = true := by { rw [bne_iff_ne]; omega } | skip
              first | have a9 : (c != 46) = true := by { rw [bne_iff_ne]; omega } | skip
              go_wp2_with fail
              refine (digit_any _ _).mono ?_
              rintro e w' ⟨rfl, rfl⟩
              go_wp2
              go_ret
              exact ⟨ret_bool HNM.out.symm, rfl⟩
        all_goals
          clear hok
          subst h0 h
          go_wp2_with fail
          refine (digit_any _ _).mono ?_
          rintro e w' ⟨rfl, rfl⟩
          go_wp2
          go_ret
          exact ⟨ret_bool HNM.out.symm, rfl⟩
    · obtain rfl : pos = s.size := by omega
      have hlen : s.data.toList.drop s.size = [] := List.drop_eq_nil_of_le (by simp)
      have hc0 := HC.out
      rw [hlen] at hc0
      have hnm : nameB s.data.toList = (decide (1 ≤ s.size) && decide (s.size ≤ 32)) := by
        have h3 : s.data.toList.length = s.size := by simp
        unfold nameB
        rw [← hc0, h3]; rfl
      have HNM := Lib.hid hnm
      clear hc0 hlen hnm HC HNO hp
      by_cases h1 : 1 ≤ s.size
      · have h1' : (0 : Int) < (s.size : Int) := by omega
        by_cases h2 : s.size ≤ 32
        · have h2' : (s.size : Int) ≤ 32 := by omega
          go_wp2
          go_ret
          exact ⟨ret_bool (by rw [HNM.out]; first | (rw [decide_eq_true h1, decide_eq_true h2]; done) | (rw [decide_eq_true h1, decide_eq_false h2]; done) | (rw [decide_eq_true h1, decide_eq_true h2]; rfl) | (rw [decide_eq_true h1, decide_eq_false h2]; rfl) | (rw [decide_eq_true h1, Bool.true_and]; simp)), rfl⟩
        · have h2' : ¬ (s.size : Int) ≤ 32 := by omega
          go_wp2
          go_ret
          exact ⟨ret_bool (by rw [HNM.out]; first | (rw [decide_eq_true h1, decide_eq_true h2]; done) | (rw [decide_eq_true h1, decide_eq_false h2]; done) | (rw [decide_eq_true h1, decide_eq_true h2]; rfl) | (rw [decide_eq_true h1, decide_eq_false h2]; rfl) | (rw [decide_eq_true h1, Bool.true_and]; simp)), rfl⟩
      · have h3 : ¬ (0 : Int) < (s.size : Int) := by omega
        go_wp2
        go_ret
        exact ⟨ret_bool (by rw [HNM.out, decide_eq_false h1]; rfl), rfl⟩
end Go.Proofs.YteamacekhfncnaaDoor
