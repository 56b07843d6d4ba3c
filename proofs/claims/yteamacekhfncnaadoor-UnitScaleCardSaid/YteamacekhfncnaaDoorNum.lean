/-
  unit.Number and its reference, and the small functions below them: each answers what the plain functions say, for every string. Condition: the string is no longer than a Go string can be.
-/
import Derived.Test.YteamacekhfncnaaDoorRows
import Derived.Test.YteamacekhfncnaaDoorLaidShelf
import Derived.Test.YteamacekhfncnaaDoorPlain
import Derived.WalkKit
import Derived.WalkSpells
import Derived.WalkLawsBesides
import Derived.Lib.Hide
namespace Go.Proofs.YteamacekhfncnaaDoor
open Go.RowKit

def satI (n : Int) : Int := if n < 0 then 0 else if 1099511627776 < n then 1099511627776 else n
def quantB (n : Int) : Bool := decide (0 ≤ n) && decide (n ≤ 1099511627776)
def digI (b : Int) : Bool := decide (48 ≤ b) && decide (b ≤ 57)

set_option maxHeartbeats 400000 in
theorem of_any (n : Int) (w : World) (h0 : -9223372036854775808 ≤ n) (h1 : n ≤ 9223372036854775807) : Calls Tryd.prog 21 #[.int .i64 n] w fun e w' => e = .returned (.int .i64 (satI n)) ∧ w = w' := by
  go_enter Tryd.func21, Tryd.ntmps21
  go_wp2
  go_ret
  refine ⟨?_, rfl⟩
  have : min (max n 0) 1099511627776 = satI n := by unfold satI; split <;> (try split) <;> omega
  show Ending.returned (.int .i64 (min (max n 0) 1099511627776)) = _
  rw [this]

set_option maxHeartbeats 400000 in
theorem quant_any (n : Int) (w : World) : Calls Tryd.prog 18 #[.int .i64 n] w fun e w' => e = .returned (.bool (quantB n)) ∧ w = w' := by
  by_cases a : 0 ≤ n <;> by_cases b : n ≤ 1099511627776
  all_goals
    go_enter Tryd.func18, Tryd.ntmps18
    go_wp2
    go_ret
    exact ⟨by simp [quantB, a, b], rfl⟩

set_option maxHeartbeats 400000 in
theorem digit_any (b : Int) (w : World) : Calls Tryd.prog 22 #[.int .u8 b] w fun e w' => e = .returned (.bool (digI b)) ∧ w = w' := by
  by_cases a : 48 ≤ b <;> by_cases c : b ≤ 57
  all_goals
    go_enter Tryd.func22, Tryd.ntmps22
    go_wp2
    go_ret
    exact ⟨by simp [digI, a, c], rfl⟩

theorem ret_two {a b c d : Int} (h : a = c) (k : b = d) : Ending.returned (.tuple #[.int .i64 a, .int .i64 b]) = .returned (.tuple #[.int .i64 c, .int .i64 d]) := by rw [h, k]
theorem num_no {l : List UInt8} (h : okN l = false) : numV l = 0 ∧ numE l = 130 := by simp [numV, numE, h]
theorem num_yes {l : List UInt8} (h : okN l = true) : numV l = val l ∧ numE l = 0 := by simp [numV, numE, h]

theorem okN_short {l : List UInt8} (h : l.length < 1) : okN l = false := by
  have : l = [] := List.eq_nil_of_length_eq_zero (by omega)
  subst this; rfl
theorem okN_long {l : List UInt8} (h : 13 < l.length) : okN l = false := by
  have : decide (l.length ≤ 13) = false := by simp; omega
  simp [okN, this]
theorem okN_digits {l : List UInt8} (h : l.all isDig = false) : okN l = false := by
  unfold okN; rw [h]; rfl
theorem okN_zero {l : List UInt8} (h : 1 < l.length) (h0 : l.head? = some 48) : okN l = false := by
  have : decide (1 < l.length) = true := by simpa using h
  simp only [okN, this, h0, decide_true, Bool.and_true, Bool.not_true, Bool.and_false, Bool.false_and]
theorem okN_eq {l : List UInt8} (h1 : 1 ≤ l.length) (h2 : l.length ≤ 13) (h3 : l.all isDig = true) (h4 : ¬ (1 < l.length ∧ l.head? = some 48)) : okN l = decide (val l ≤ top) := by
  have e1 : decide (1 ≤ l.length) = true := by simpa using h1
  have e2 : decide (l.length ≤ 13) = true := by simpa using h2
  have e3 : (decide (1 < l.length) && decide (l.head? = some 48)) = false := by
    simp only [Bool.and_eq_false_iff, decide_eq_false_iff_not]
    by_cases h : 1 < l.length
    · exact .inr fun h' => h4 ⟨h, h'⟩
    · exact .inl h
  unfold okN
  rw [h3, e1, e2, e3]; simp

theorem head_eq {s : ByteArray} (h : 0 < s.size) : s.data.toList.head? = some s[0] := by
  rw [List.head?_eq_getElem?]
  rw [List.getElem?_eq_getElem (by simpa using h)]
  rfl

set_option maxHeartbeats 400000 in
theorem number_short (s : ByteArray) (w : World) (h1 : s.size < 1) : Calls Tryd.prog 8 #[.string s] w fun e w' => e = .returned (.tuple #[.int .i64 (numV s.data.toList), .int .i64 (numE s.data.toList)]) ∧ Below w.heap.size w w' := by
  have hk := num_no (okN_short (l := s.data.toList) (by simpa using h1))
  rw [hk.1, hk.2]
  clear hk
  go_enter Tryd.func8, Tryd.ntmps8
  go_wp2
  go_ret2
  exact ⟨rfl, Below.refl _ _⟩

set_option maxHeartbeats 400000 in
theorem number_long (s : ByteArray) (w : World) (hs : s.size ≤ 140737488351232) (h1 : 13 < s.size) : Calls Tryd.prog 8 #[.string s] w fun e w' => e = .returned (.tuple #[.int .i64 (numV s.data.toList), .int .i64 (numE s.data.toList)]) ∧ Below w.heap.size w w' := by
  have hk := num_no (okN_long (l := s.data.toList) (by simpa using h1))
  rw [hk.1, hk.2]
  clear hk
  go_enter Tryd.func8, Tryd.ntmps8
  go_wp2
  go_ret2
  exact ⟨rfl, Below.refl _ _⟩

set_option maxHeartbeats 400000 in
theorem number_letters (s : ByteArray) (w : World) (h1 : 1 ≤ s.size) (h2 : s.size ≤ 13) (h3 : s.data.toList.all isDig = false) : Calls Tryd.prog 8 #[.string s] w fun e w' => e = .returned (.tuple #[.int .i64 (numV s.data.toList), .int .i64 (numE s.data.toList)]) ∧ Below w.heap.size w w' := by
  have hk := num_no (okN_digits h3)
  rw [hk.1, hk.2]
  have hT : ¬ Lib.trimS s.data.toList [48, 49, 50, 51, 52, 53, 54, 55, 56, 57] = [] := fun h => by
    have := (trim_nil s.data.toList).1 h
    rw [h3] at this; cases this
  clear hk h3
  go_enter Tryd.func8, Tryd.ntmps8
  go_wp2_with fail
  refine (Any.strings_Trim_laid Tryd.lays160 (by kernel_rfl) _ _ _ (by omega) (by decide) (ascii_of_all (by decide))).mono ?_
  rintro e w1 ⟨rfl, hb1⟩
  go_wp2
  go_ret2
  exact ⟨rfl, hb1⟩

set_option maxHeartbeats 400000 in
theorem number_zero (s : ByteArray) (w : World) (h1 : 1 < s.size) (h2 : s.size ≤ 13) (h3 : s.data.toList.all isDig = true) (h4 : s.data.toList.head? = some 48) : Calls Tryd.prog 8 #[.string s] w fun e w' => e = .returned (.tuple #[.int .i64 (numV s.data.toList), .int .i64 (numE s.data.toList)]) ∧ Below w.heap.size w w' := by
  have hk := num_no (okN_zero (l := s.data.toList) (by simpa using h1) h4)
  rw [hk.1, hk.2]
  have hT : Lib.trimS s.data.toList [48, 49, 50, 51, 52, 53, 54, 55, 56, 57] = [] := (trim_nil s.data.toList).2 h3
  have h0 : 0 < s.size := by omega
  have hz : ((s[0].toNat : Int) == 48) = true := by
    rw [head_eq h0] at h4
    simp only [Option.some.injEq] at h4
    rw [h4]; rfl
  clear hk h3 h4
  go_enter Tryd.func8, Tryd.ntmps8
  go_wp2_with fail
  refine (Any.strings_Trim_laid Tryd.lays160 (by kernel_rfl) _ _ _ (by omega) (by decide) (ascii_of_all (by decide))).mono ?_
  rintro e w1 ⟨rfl, hb1⟩
  go_wp2_with fail
  go_ret2
  exact ⟨rfl, hb1⟩

theorem below_pair {w1 w2 : World} {e : TypeId} (h : w2 = w1 ∨ ∃ t, w2 = Lib.bytesWorld w1 e t) : Below w1.heap.size w1 w2 := by
  rcases h with rfl | ⟨t, rfl⟩
  · exact Below.refl _ _
  · exact Lib.bytesWorld_below _ _ _
theorem below_next {w w1 w2 : World} (h : Below w.heap.size w w1) (k : Below w1.heap.size w1 w2) : Below w.heap.size w w2 := h.trans (k.mono h.size)

set_option maxHeartbeats 400000 in
theorem number_good (s : ByteArray) (w : World) (h1 : 1 ≤ s.size) (h2 : s.size ≤ 13) (h3 : s.data.toList.all isDig = true) (h4 : ¬ (1 < s.size ∧ s.data.toList.head? = some 48)) : Calls Tryd.prog 8 #[.string s] w fun e w' => e = .returned (.tuple #[.int .i64 (numV s.data.toList), .int .i64 (numE s.data.toList)]) ∧ Below w.heap.size w w' := by
  have h0 : 0 < s.size := by omega
  have hT : Lib.trimS s.data.toList [48, 49, 50, 51, 52, 53, 54, 55, 56, 57] = [] := (trim_nil s.data.toList).2 h3
  have hl : s.data.toList.length = s.size := by simp
  have hok := okN_eq (l := s.data.toList) (by omega) (by omega) h3 (by rw [hl]; exact h4)
  have hp := parse_ok h3 (by omega) (by omega)
  have hv : val s.data.toList < 10000000000000 := by
    refine Nat.lt_of_lt_of_le (val_lt h3) ?_
    exact Nat.le_trans (Nat.pow_le_pow_right (by omega) (show _ ≤ 13 by omega)) (by decide)
  have hz : s.size ≤ 1 ∨ (1 < s.size ∧ ((s[0].toNat : Int) == 48) = false) := by
    by_cases hlt : 1 < s.size
    · refine .inr ⟨hlt, ?_⟩
      rw [beq_eq_false_iff_ne]
      intro he
      refine h4 ⟨hlt, ?_⟩
      rw [head_eq h0]
      congr 1
      apply UInt8.toNat_inj.1
      show s[0].toNat = 48
      omega
    · exact .inl (by omega)
  have Hp := Lib.hid hp
  clear hp h3 h4 hl
  by_cases ht : val s.data.toList ≤ top
  · have hk := num_yes (l := s.data.toList) (by rw [hok]; simpa using ht)
    rw [hk.1, hk.2]
    clear hk hok
    generalize val s.data.toList = v at *
    have hsat : satI v = v := by unfold satI; unfold top at ht; rw [if_neg (by omega), if_neg (by omega)]
    unfold top at ht
    rcases hz with hz | ⟨hz, hy⟩
    all_goals
      go_enter Tryd.func8, Tryd.ntmps8
      go_wp2_with fail
      refine (Any.strings_Trim_laid Tryd.lays160 (by kernel_rfl) _ _ _ (by omega) (by decide) (ascii_of_all (by decide))).mono ?_
      rintro e w1 ⟨rfl, hb1⟩
      go_wp2_with fail
      refine (Tryd.strconv_ParseInt_10_at64_ok s (by omega) v Hp.out _).mono ?_
      rintro e w2 ⟨rfl, hb2⟩
      have hb := below_next hb1 (below_pair hb2)
      clear hb1 hb2
      go_wp2_with fail
      refine (of_any _ _ (by omega) (by omega)).mono ?_
      rintro e w' ⟨rfl, rfl⟩
      go_wp2
      go_ret2
      exact ⟨rfl, hb⟩
  · have hk := num_no (l := s.data.toList) (by rw [hok]; simpa using ht)
    rw [hk.1, hk.2]
    clear hk hok
    generalize val s.data.toList = v at *
    unfold top at ht
    have hsat : ((v : Int) != satI v) = true := by unfold satI; rw [if_neg (by omega), if_pos (by omega), bne_iff_ne]; omega
    rcases hz with hz | ⟨hz, hy⟩
    all_goals
      go_enter Tryd.func8, Tryd.ntmps8
      go_wp2_with fail
      refine (Any.strings_Trim_laid Tryd.lays160 (by kernel_rfl) _ _ _ (by omega) (by decide) (ascii_of_all (by decide))).mono ?_
      rintro e w1 ⟨rfl, hb1⟩
      go_wp2_with fail
      refine (Tryd.strconv_ParseInt_10_at64_ok s (by omega) v Hp.out _).mono ?_
      rintro e w2 ⟨rfl, hb2⟩
      have hb := below_next hb1 (below_pair hb2)
      clear hb1 hb2
      go_wp2_with fail
      refine (of_any _ _ (by omega) (by omega)).mono ?_
      rintro e w' ⟨rfl, rfl⟩
      go_wp2
      go_ret2
      exact ⟨rfl, hb⟩

theorem number_any (s : ByteArray) (w : World) (hs : s.size ≤ 140737488351232) : Calls Tryd.prog 8 #[.string s] w fun e w' => e = .returned (.tuple #[.int .i64 (numV s.data.toList), .int .i64 (numE s.data.toList)]) ∧ Below w.heap.size w w' := by
  by_cases h1 : s.size < 1
  · exact number_short s w h1
  by_cases h2 : 13 < s.size
  · exact number_long s w hs h2
  cases h3 : s.data.toList.all isDig with
  | false => exact number_letters s w (by omega) (by omega) h3
  | true =>
    by_cases h4 : 1 < s.size ∧ s.data.toList.head? = some 48
    · exact number_zero s w h4.1 (by omega) h3 h4.2
    · exact number_good s w (by omega) (by omega) h3 h4
end Go.Proofs.YteamacekhfncnaaDoor
