/-
  UnitTexts, walked: it answers true for every int64, where the units' table and the powers of ten stand; ahead of it the plain law: a size's text is read as the size again. Nothing else is asked.
-/
import Derived.Test.YteamacekhfncnaaDoorRSizeText
namespace Go.Proofs.YteamacekhfncnaaDoor
open Go.RowKit
open Go.Lib (decDigits)

/-- A size's text is read as the size again. -/
theorem size_back {n : Int} (h0 : 0 ≤ n) (h1 : n ≤ 1099511627776) : sizeV (sizeTextL n) = n ∧ sizeE (sizeTextL n) = 0 := by
  have hplain : sizeV (textL n) = n ∧ sizeE (textL n) = 0 := by
    have ht : textL n = decDigits n.toNat := by unfold textL; rw [if_pos ⟨h0, by unfold top; omega⟩]
    have hk : okN (decDigits n.toNat) = true := decDigits_ok (by unfold top; omega)
    obtain ⟨e1, e2⟩ := parted_head (l := textL n) (d := decDigits n.toNat) (u := []) (by rw [ht]; simp) hk (by decide)
    have hv : (val (decDigits n.toNat) : Int) = n := by rw [val_decDigits]; omega
    have hb1 : byU [] = 1 := rfl
    have := size_yes (l := textL n) (by
      rw [e1, e2]; unfold okAt; rw [hk, hv, hb1]
      simp; omega)
    rw [e1, e2, hv, hb1, Int.mul_one] at this
    exact this
  unfold sizeTextL
  split
  · rename_i h
    cases hf : nameK.find? (fun p => n % p.2 == 0) with
    | none => exact hplain
    | some p =>
      have hp := List.find?_some hf
      have hm := List.mem_of_find?_eq_some hf
      have hkey : ∀ (u : List UInt8) (c : Int), byU u = c → 1024 ≤ c → c ≤ 1099511627776 → (n % c == 0) = true → sizeV (textL (n.tdiv c) ++ u) = n ∧ sizeE (textL (n.tdiv c) ++ u) = 0 := by
        intro u c hu hc1 hc2 hz
        have hz' : n % c = 0 := by simpa using hz
        have hd : n.tdiv c = n / c := Int.tdiv_eq_ediv_of_nonneg h0
        have hq0 : 0 ≤ n / c := Int.ediv_nonneg h0 (by omega)
        have hq1 : n / c ≤ n := Int.ediv_le_self _ h0
        have hmul : n / c * c = n := Int.ediv_mul_cancel (Int.dvd_of_emod_eq_zero hz')
        rw [hd]
        have ht : textL (n / c) = decDigits (n / c).toNat := by unfold textL; rw [if_pos ⟨hq0, by unfold top; omega⟩]
        have hk : okN (decDigits (n / c).toNat) = true := decDigits_ok (by unfold top; omega)
        obtain ⟨e1, e2⟩ := parted_head (l := textL (n / c) ++ u) (d := decDigits (n / c).toNat) (u := u) (by rw [ht]) hk (by rw [hu]; omega)
        have hv : (val (decDigits (n / c).toNat) : Int) = n / c := by rw [val_decDigits]; omega
        have hle : n / c ≤ 1099511627776 / c := Int.ediv_le_ediv (by omega) h1
        have := size_yes (l := textL (n / c) ++ u) (by
          rw [e1, e2]; unfold okAt; rw [hk, hv, hu, decide_eq_true hle]
          simp; omega)
        rw [e1, e2, hv, hu, hmul] at this
        exact this
      unfold nameK at hm
      simp only [List.mem_cons, List.not_mem_nil, or_false] at hm
      rcases hm with rfl | rfl | rfl | rfl
      · exact hkey _ _ (by decide) (by decide) (by decide) hp
      · exact hkey _ _ (by decide) (by decide) (by decide) hp
      · exact hkey _ _ (by decide) (by decide) (by decide) hp
      · exact hkey _ _ (by decide) (by decide) (by decide) hp
  · exact hplain

theorem number_t (l : List UInt8) (w : World) {a b : Int} (hs : l.length ≤ 140737488351232) (ha : numV l = a) (hb : numE l = b) : Calls Tryd.prog 8 #[.string ⟨l.toArray⟩] w fun e w' => e = .returned (.tuple #[.int .i64 a, .int .i64 b]) ∧ Below w.heap.size w w' := number_l l w hs ha hb
theorem size_t (l : List UInt8) (w : World) {a b : Int} (hs : l.length ≤ 140737488351232) (hu : Units w) (ha : sizeV l = a) (hb : sizeE l = b) : Calls Tryd.prog 10 #[.string ⟨l.toArray⟩] w fun e w' => e = .returned (.tuple #[.int .i64 a, .int .i64 b]) ∧ Below w.heap.size w w' := by
  subst ha hb
  exact size_any ⟨l.toArray⟩ w hs hu
theorem sizeText_len (n : Int) : (sizeTextL n).length ≤ 16 := by
  unfold sizeTextL
  split
  · cases hf : nameK.find? (fun p => n % p.2 == 0) with
    | none => exact Nat.le_trans (textL_len n) (by omega)
    | some p =>
      have hm := List.mem_of_find?_eq_some hf
      unfold nameK at hm
      simp only [List.mem_cons, List.not_mem_nil, or_false] at hm
      have := textL_len (n.tdiv p.2)
      rcases hm with rfl | rfl | rfl | rfl <;> simp <;> omega
  · exact Nat.le_trans (textL_len n) (by omega)

theorem text_t (n : Int) (w : World) {l : List UInt8} (h0 : -9223372036854775808 ≤ n) (h1 : n ≤ 9223372036854775807) (hp : Pow w) (hl : textL n = l) : Calls Tryd.prog 14 #[.int .i64 n] w fun e w' => e = .returned (.string ⟨l.toArray⟩) ∧ Below w.heap.size w w' := by
  subst hl; exact text_any n w h0 h1 hp
theorem sizetext_t (n : Int) (w : World) {l : List UInt8} (h0 : -9223372036854775808 ≤ n) (h1 : n ≤ 9223372036854775807) (hp : Pow w) (hu : Units w) (hl : sizeTextL n = l) : Calls Tryd.prog 15 #[.int .i64 n] w fun e w' => e = .returned (.string ⟨l.toArray⟩) ∧ Below w.heap.size w w' := by
  subst hl; exact sizetext_any n w h0 h1 hp hu
theorem rtext_t (n : Int) (w : World) {l : List UInt8} (hl : textL n = l) : Calls Tryd.prog 16 #[.int .i64 n] w fun e w' => e = .returned (.string ⟨l.toArray⟩) ∧ Below w.heap.size w w' := by
  subst hl; exact rtext_any n w
theorem rsizetext_t (n : Int) (w : World) {l : List UInt8} (hl : sizeTextL n = l) : Calls Tryd.prog 17 #[.int .i64 n] w fun e w' => e = .returned (.string ⟨l.toArray⟩) ∧ Below w.heap.size w w' := by
  subst hl; exact rsizetext_any n w

set_option maxRecDepth 100000 in
set_option maxHeartbeats 4000000 in
theorem texts_in (n : Int) (w : World) (h0 : -9223372036854775808 ≤ n) (h1 : n ≤ 9223372036854775807) (hq : 0 ≤ n ∧ n ≤ 1099511627776) (hp : Pow w) (hu : Units w) : Calls Tryd.prog 4 #[.int .i64 n] w fun e w' => e = .returned (.bool true) ∧ Below w.heap.size w w' := by
  have hqb : quantB n = true := by unfold quantB; rw [decide_eq_true hq.1, decide_eq_true hq.2]; rfl
  obtain ⟨n1, n2⟩ := textL_num (n := n) ⟨hq.1, by unfold top; omega⟩
  obtain ⟨s1, s2⟩ := size_back hq.1 hq.2
  have l1 := textL_len n
  have l2 := sizeText_len n
  generalize ht : textL n = t at *
  generalize hut : sizeTextL n = u at *
  have HT := Lib.hid ht
  have HU := Lib.hid hut
  have N1 := Lib.hid n1
  have N2 := Lib.hid n2
  have S1 := Lib.hid s1
  have S2 := Lib.hid s2
  clear n1 n2 s1 s2 ht hut hq
  go_enter Tryd.func4, Tryd.ntmps4
  go_wp2_with fail
  refine (text_t n _ h0 h1 hp HT.out).mono ?_
  rintro e w1 ⟨rfl, hb1⟩
  have hp1 := hp.below hb1
  have hu1 := hu.below hb1
  clear hp hu
  go_wp2_with fail
  refine (sizetext_t n _ h0 h1 hp1 hu1 HU.out).mono ?_
  rintro e w2 ⟨rfl, hb2⟩
  have hp2 := hp1.below hb2
  have hu2 := hu1.below hb2
  have hc2 := below_next hb1 hb2
  clear hp1 hu1 hb1 hb2
  go_wp2_with fail
  refine (rtext_t n _ HT.out).mono ?_
  rintro e w3 ⟨rfl, hb3⟩
  have hp3 := hp2.below hb3
  have hu3 := hu2.below hb3
  have hc3 := below_next hc2 hb3
  clear hp2 hu2 hc2 hb3
  go_wp2_with fail
  refine (rsizetext_t n _ HU.out).mono ?_
  rintro e w4 ⟨rfl, hb4⟩
  have hp4 := hp3.below hb4
  have hu4 := hu3.below hb4
  have hc4 := below_next hc3 hb4
  clear hp3 hu3 hc3 hb4
  go_wp2_with fail
  refine (number_t _ _ (by omega) N1.out N2.out).mono ?_
  rintro e w5 ⟨rfl, hb5⟩
  have hp5 := hp4.below hb5
  have hu5 := hu4.below hb5
  have hc5 := below_next hc4 hb5
  clear hp4 hu4 hc4 hb5
  go_wp2_with fail
  refine (size_t _ _ (by omega) hu5 S1.out S2.out).mono ?_
  rintro e w6 ⟨rfl, hb6⟩
  have hp6 := hp5.below hb6
  have hu6 := hu5.below hb6
  have hc6 := below_next hc5 hb6
  clear hp5 hu5 hc5 hb6
  go_wp2_with fail
  refine (quant_any _ _).mono ?_
  rintro e w' ⟨rfl, rfl⟩
  go_wp2_with fail
  refine (head_any _ hp6 hu6).mono ?_
  rintro e w7 ⟨rfl, hb7⟩
  have hc7 := below_next hc6 hb7
  clear hc6 hb7
  go_wp2
  go_ret
  exact ⟨rfl, hc7⟩

set_option maxRecDepth 100000 in
set_option maxHeartbeats 4000000 in
theorem texts_out (n : Int) (w : World) (h0 : -9223372036854775808 ≤ n) (h1 : n ≤ 9223372036854775807) (hq : ¬ (0 ≤ n ∧ n ≤ 1099511627776)) (hp : Pow w) (hu : Units w) : Calls Tryd.prog 4 #[.int .i64 n] w fun e w' => e = .returned (.bool true) ∧ Below w.heap.size w w' := by
  have hqb : quantB n = false := by
    rw [Bool.eq_false_iff]; intro k; unfold quantB at k
    simp only [Bool.and_eq_true, decide_eq_true_eq] at k
    exact hq k
  have ht : textL n = [] := text_out hq
  have hut : sizeTextL n = [] := by unfold sizeTextL; rw [if_neg (by omega)]; exact ht
  have n1 : numV [] = 0 := by decide
  have n2 : numE [] = 130 := by decide
  have s1 : sizeV [] = 0 := by decide
  have s2 : sizeE [] = 130 := by decide
  have HT := Lib.hid ht
  have HU := Lib.hid hut
  have N1 := Lib.hid n1
  have N2 := Lib.hid n2
  have S1 := Lib.hid s1
  have S2 := Lib.hid s2
  clear n1 n2 s1 s2 ht hut hq
  go_enter Tryd.func4, Tryd.ntmps4
  go_wp2_with fail
  refine (text_t n _ h0 h1 hp HT.out).mono ?_
  rintro e w1 ⟨rfl, hb1⟩
  have hp1 := hp.below hb1
  have hu1 := hu.below hb1
  clear hp hu
  go_wp2_with fail
  refine (sizetext_t n _ h0 h1 hp1 hu1 HU.out).mono ?_
  rintro e w2 ⟨rfl, hb2⟩
  have hp2 := hp1.below hb2
  have hu2 := hu1.below hb2
  have hc2 := below_next hb1 hb2
  clear hp1 hu1 hb1 hb2
  go_wp2_with fail
  refine (rtext_t n _ HT.out).mono ?_
  rintro e w3 ⟨rfl, hb3⟩
  have hp3 := hp2.below hb3
  have hu3 := hu2.below hb3
  have hc3 := below_next hc2 hb3
  clear hp2 hu2 hc2 hb3
  go_wp2_with fail
  refine (rsizetext_t n _ HU.out).mono ?_
  rintro e w4 ⟨rfl, hb4⟩
  have hp4 := hp3.below hb4
  have hu4 := hu3.below hb4
  have hc4 := below_next hc3 hb4
  clear hp3 hu3 hc3 hb4
  go_wp2_with fail
  refine (number_t _ _ (by decide) N1.out N2.out).mono ?_
  rintro e w5 ⟨rfl, hb5⟩
  have hp5 := hp4.below hb5
  have hu5 := hu4.below hb5
  have hc5 := below_next hc4 hb5
  clear hp4 hu4 hc4 hb5
  go_wp2_with fail
  refine (size_t _ _ (by decide) hu5 S1.out S2.out).mono ?_
  rintro e w6 ⟨rfl, hb6⟩
  have hp6 := hp5.below hb6
  have hu6 := hu5.below hb6
  have hc6 := below_next hc5 hb6
  clear hp5 hu5 hc5 hb6
  go_wp2_with fail
  refine (quant_any _ _).mono ?_
  rintro e w' ⟨rfl, rfl⟩
  go_wp2_with fail
  refine (head_any _ hp6 hu6).mono ?_
  rintro e w7 ⟨rfl, hb7⟩
  have hc7 := below_next hc6 hb7
  clear hc6 hb7
  go_wp2
  go_ret
  exact ⟨rfl, hc7⟩

theorem texts_any (n : Int) (w : World) (h0 : -9223372036854775808 ≤ n) (h1 : n ≤ 9223372036854775807) (hp : Pow w) (hu : Units w) : Calls Tryd.prog 4 #[.int .i64 n] w fun e w' => e = .returned (.bool true) ∧ Below w.heap.size w w' := by
  by_cases hq : 0 ≤ n ∧ n ≤ 1099511627776
  · exact texts_in n w h0 h1 hq hp hu
  · exact texts_out n w h0 h1 hq hp hu
end Go.Proofs.YteamacekhfncnaaDoor
