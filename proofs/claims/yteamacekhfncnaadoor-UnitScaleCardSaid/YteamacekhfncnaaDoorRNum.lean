/-
  The reference's Number: it answers what the plain functions say, for every string. Condition: the string is no longer than a Go string can be.
-/
import Derived.Test.YteamacekhfncnaaDoorNum
namespace Go.Proofs.YteamacekhfncnaaDoor
open Go.RowKit

theorem ret_two' {a b c d : Int} (h : a = c) (k : b = d) : Ending.returned (.tuple #[.int .i64 a, .int .i64 b]) = .returned (.tuple #[.int .i64 c, .int .i64 d]) := by rw [h, k]

theorem digI_is (b : UInt8) : digI (b.toNat : Int) = isDig b := by
  unfold digI isDig
  rw [Bool.eq_iff_iff]
  simp
  omega

theorem take_snoc (s : ByteArray) (k : Nat) (h : k < s.size) : s.data.toList.take (k + 1) = s.data.toList.take k ++ [s[k]] := by
  rw [List.take_succ_eq_append_getElem (by simpa using h)]; rfl
theorem not_all {s : ByteArray} {k : Nat} (h : k < s.size) (hd : isDig s[k] = false) : s.data.toList.all isDig = false := by
  rw [Bool.eq_false_iff]
  intro ha
  have := List.all_eq_true.1 ha s[k] (by
    have : s.data.toList[k]'(by simpa using h) = s[k] := rfl
    rw [← this]; exact List.getElem_mem _)
  rw [hd] at this; cases this

set_option maxHeartbeats 400000 in
theorem rnumber_out (s : ByteArray) (w : World) (hs : s.size ≤ 140737488351232) (h1 : s.size = 0 ∨ 13 < s.size) : Calls Tryd.prog 9 #[.string s] w fun e w' => e = .returned (.tuple #[.int .i64 (numV s.data.toList), .int .i64 (numE s.data.toList)]) ∧ w = w' := by
  have hk : numV s.data.toList = 0 ∧ numE s.data.toList = 130 := by
    rcases h1 with h1 | h1
    · exact num_no (okN_short (l := s.data.toList) (by have : s.data.toList.length = s.size := by simp
                                                       omega))
    · exact num_no (okN_long (l := s.data.toList) (by simpa using h1))
  rw [hk.1, hk.2]
  clear hk
  rcases h1 with h1 | h1
  · have hb : ((s.size : Int) == 0) = true := by rw [h1]; rfl
    clear h1
    go_enter Tryd.func9, Tryd.ntmps9
    go_wp2
    go_ret2
    exact ⟨rfl, rfl⟩
  · have hb : ((s.size : Int) == 0) = false := by rw [beq_eq_false_iff_ne]; omega
    go_enter Tryd.func9, Tryd.ntmps9
    go_wp2
    go_ret2
    exact ⟨rfl, rfl⟩

set_option maxHeartbeats 400000 in
theorem rnumber_zero (s : ByteArray) (w : World) (h1 : 1 < s.size) (h2 : s.size ≤ 13) (h4 : s.data.toList.head? = some 48) : Calls Tryd.prog 9 #[.string s] w fun e w' => e = .returned (.tuple #[.int .i64 (numV s.data.toList), .int .i64 (numE s.data.toList)]) ∧ w = w' := by
  have hk := num_no (okN_zero (l := s.data.toList) (by simpa using h1) h4)
  rw [hk.1, hk.2]
  have h0 : 0 < s.size := by omega
  have hb : ((s.size : Int) == 0) = false := by rw [beq_eq_false_iff_ne]; omega
  have hz : ((s[0].toNat : Int) == 48) = true := by
    rw [head_eq h0] at h4
    simp only [Option.some.injEq] at h4
    rw [h4]; rfl
  clear hk h4
  go_enter Tryd.func9, Tryd.ntmps9
  go_wp2
  go_ret2
  exact ⟨rfl, rfl⟩

theorem val_take_lt {s : ByteArray} {k : Nat} (h2 : s.size ≤ 13) (hk : k ≤ s.size) (ha : (s.data.toList.take k).all isDig = true) : val (s.data.toList.take k) < 10000000000000 := by
  refine Nat.lt_of_lt_of_le (val_lt ha) ?_
  refine Nat.le_trans (Nat.pow_le_pow_right (by omega) (show _ ≤ 13 from ?_)) (by decide)
  simp; omega

set_option maxHeartbeats 1000000 in
theorem rnumber_in (s : ByteArray) (w : World) (h1 : 1 ≤ s.size) (h2 : s.size ≤ 13) (h4 : ¬ (1 < s.size ∧ s.data.toList.head? = some 48)) : Calls Tryd.prog 9 #[.string s] w fun e w' => e = .returned (.tuple #[.int .i64 (numV s.data.toList), .int .i64 (numE s.data.toList)]) ∧ w = w' := by
  have h0 : 0 < s.size := by omega
  have hb : ((s.size : Int) == 0) = false := by rw [beq_eq_false_iff_ne]; omega
  have hz : s.size ≤ 1 ∨ (1 < s.size ∧ ((s[0].toNat : Int) == 48) = false) := by
    by_cases hlt : 1 < s.size
    · refine .inr ⟨hlt, ?_⟩
      rw [beq_eq_false_iff_ne]
      intro he
      refine h4 ⟨hlt, ?_⟩
      rw [head_eq h0]
      congr 1
      apply UInt8.toNat_inj.1
      show s[0].toNat = 48
      omega
    · exact .inl (by omega)
  have H4 := Lib.hid h4
  clear h4
  rcases hz with hz | ⟨hz, hy⟩
  all_goals
    go_enter Tryd.func9, Tryd.ntmps9
    go_wp2
    go_loop [4, 5] (fun n i => ∃ k : Nat, k ≤ s.size ∧ i = .int .i64 k ∧ n = .int .i64 (val (s.data.toList.take k)) ∧ (s.data.toList.take k).all isDig = true) (fun _ i => s.size - (intOf i).toNat)
    case atStart => exact ⟨0, Nat.zero_le _, rfl, rfl, rfl⟩
    case round =>
      obtain ⟨k, hk, rfl, rfl, hall⟩ := hrel
      have hv := val_take_lt h2 hk hall
      have Hall := Lib.hid hall
      clear hall
      by_cases hlt : k < s.size
      · have hdi := digI_is s[k]
        cases hd : isDig s[k] with
        | false =>
          rw [hd] at hdi
          have hk2 := num_no (okN_digits (not_all hlt hd))
          have HN := Lib.hid hk2
          clear hk2 hd
          go_wp2_with fail
          refine (digit_any _ _).mono ?_
          rintro e w' ⟨rfl, rfl⟩
          go_wp2
          go_ret2
          exact ⟨ret_two' HN.out.1.symm HN.out.2.symm, rfl⟩
        | true =>
          rw [hd] at hdi
          have hb2 : 48 ≤ (s[k].toNat : Int) ∧ (s[k].toNat : Int) ≤ 57 := by simp [isDig] at hd; omega
          obtain ⟨hb3, hb4⟩ := hb2
          have hsn : (val (s.data.toList.take (k + 1)) : Int) = 10 * (val (s.data.toList.take k) : Int) + ((s[k].toNat : Int) - 48) := by
            rw [take_snoc s k hlt, val_append]; unfold stepV; omega
          have hal : (s.data.toList.take (k + 1)).all isDig = true := by
            rw [take_snoc s k hlt, List.all_append, Hall.out]; simp [hd]
          have HS := Lib.hid hsn
          have HA := Lib.hid hal
          clear hsn hal hd
          go_wp2_with fail
          refine (digit_any _ _).mono ?_
          rintro e w' ⟨rfl, rfl⟩
          go_wp2
          go_round
          case rel => exact ⟨k + 1, by omega, by go_num, by rw [HS.out], HA.out⟩
          case measure => simp [intOf]; omega
      · obtain rfl : k = s.size := by omega
        have hlen : s.data.toList.take s.size = s.data.toList := List.take_of_length_le (by simp)
        have hok := okN_eq (l := s.data.toList) (by simpa using h1) (by simpa using h2) (by rw [← hlen]; exact Hall.out) (by simpa using H4.out)
        rw [hlen] at hv ⊢
        by_cases ht : val s.data.toList ≤ top
        · have hk2 := num_yes (l := s.data.toList) (by rw [hok]; simpa using ht)
          have HN := Lib.hid hk2
          clear hk2 hok hlen
          generalize val s.data.toList = v at *
          unfold top at ht
          go_wp2
          go_ret2
          exact ⟨ret_two' HN.out.1.symm HN.out.2.symm, rfl⟩
        · have hk2 := num_no (l := s.data.toList) (by rw [hok]; simpa using ht)
          have HN := Lib.hid hk2
          clear hk2 hok hlen
          generalize val s.data.toList = v at *
          unfold top at ht
          go_wp2
          go_ret2
          exact ⟨ret_two' HN.out.1.symm HN.out.2.symm, rfl⟩

theorem rnumber_any (s : ByteArray) (w : World) (hs : s.size ≤ 140737488351232) : Calls Tryd.prog 9 #[.string s] w fun e w' => e = .returned (.tuple #[.int .i64 (numV s.data.toList), .int .i64 (numE s.data.toList)]) ∧ w = w' := by
  by_cases h1 : s.size = 0 ∨ 13 < s.size
  · exact rnumber_out s w hs h1
  · by_cases h4 : 1 < s.size ∧ s.data.toList.head? = some 48
    · exact rnumber_zero s w h4.1 (by omega) h4.2
    · exact rnumber_in s w (by omega) (by omega) h4
end Go.Proofs.YteamacekhfncnaaDoor
