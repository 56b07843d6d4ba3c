/-
  The small functions of phase and of its reference: each answers what it says, for every byte; Word under the words' table as its text lays it.
-/
import Derived.Test.YtmfbkaepkooneaaDoorNext
namespace Go.Proofs.YtmfbkaepkooneaaDoor
open Go.RowKit Go.Maps

/-- The words. -/
def wd : Nat → List UInt8
  | 1 => [119, 97, 105, 116] | 2 => [105, 110] | 3 => [114, 101, 97, 100, 121] | 4 => [114, 117, 110] | 5 => [107, 101, 101, 112] | 6 => [111, 117, 116] | 7 => [100, 111, 110, 101] | 8 => [98, 97, 100] | 9 => [103, 111, 110, 101] | 10 => [108, 97, 116, 101] | _ => []
def wdb (p : Int) : ByteArray := ⟨(wd p.toNat).toArray⟩
abbrev wdv (p : Int) : Value := .string (wdb p)
/-- The table of the words stands. -/
def Words (w : World) : Prop := 0 < w.heap.size ∧ ∀ i : Nat, i < 11 → w.cell? ⟨0, i, none⟩ = some (wdv i)
theorem Words.below {B : Nat} {w w' : World} (h : Words w) (hb : Below B w w') (hB : 0 < B) : Words w' :=
  ⟨by have := hb.size; have := h.1; omega, fun i hi => (hb.cell (by exact hB)).trans (h.2 i hi)⟩

theorem wd_high {n : Nat} (h : 11 ≤ n) : wd n = [] := by
  unfold wd
  split <;> first | rfl | omega

def overB (p : Int) : Bool := decide (7 ≤ p) && decide (p ≤ 10)

set_option maxHeartbeats 400000 in
theorem over_any (p : Int) (w : World) : Calls Tryd.prog 7 #[.int .u8 p] w fun e w' => e = .returned (.bool (overB p)) ∧ w' = w := by
  by_cases a : 7 ≤ p <;> by_cases b : p ≤ 10
  all_goals
    go_enter Tryd.func7, Tryd.ntmps7
    go_wp2
    go_ret
    exact ⟨by simp [overB, a, b], rfl⟩

set_option maxHeartbeats 400000 in
theorem rover_any (p : Int) (w : World) : Calls Tryd.prog 12 #[.int .u8 p] w fun e w' => e = .returned (.bool (overB p)) ∧ w' = w := by
  by_cases a : 7 ≤ p <;> by_cases b : p ≤ 10
  all_goals
    go_enter Tryd.func12, Tryd.ntmps12
    go_wp2
    go_ret
    exact ⟨by simp [overB, a, b], rfl⟩

set_option maxHeartbeats 400000 in
theorem word_any (p : Int) (w : World) (h0 : 0 ≤ p) (h1 : p ≤ 255) (hw : Words w) : Calls Tryd.prog 8 #[.int .u8 p] w fun e w' => e = .returned (wdv p) ∧ w' = w := by
  by_cases a : p ≤ 10
  · obtain ⟨n, rfl⟩ := Int.eq_ofNat_of_zero_le h0
    have hc : w.cell? ⟨0, n, none⟩ = some (wdv n) := hw.2 n (by omega)
    go_enter Tryd.func8, Tryd.ntmps8
    go_wp2
    go_ret
    exact ⟨rfl, rfl⟩
  · go_enter Tryd.func8, Tryd.ntmps8
    go_wp2
    go_ret
    refine ⟨?_, rfl⟩
    unfold wdv wdb
    rw [wd_high (by omega)]
    rfl

theorem words_at {n : Nat} (h : n ≤ 10) : [Value.string ⟨#[]⟩, Value.string ⟨#[119, 97, 105, 116]⟩, Value.string ⟨#[105, 110]⟩, Value.string ⟨#[114, 101, 97, 100, 121]⟩, Value.string ⟨#[114, 117, 110]⟩, Value.string ⟨#[107, 101, 101, 112]⟩, Value.string ⟨#[111, 117, 116]⟩, Value.string ⟨#[100, 111, 110, 101]⟩, Value.string ⟨#[98, 97, 100]⟩, Value.string ⟨#[103, 111, 110, 101]⟩, Value.string ⟨#[108, 97, 116, 101]⟩][n]? = some (wdv n) := by
  have : n = 0 ∨ n = 1 ∨ n = 2 ∨ n = 3 ∨ n = 4 ∨ n = 5 ∨ n = 6 ∨ n = 7 ∨ n = 8 ∨ n = 9 ∨ n = 10 := by omega
  rcases this with rfl | rfl | rfl | rfl | rfl | rfl | rfl | rfl | rfl | rfl | rfl <;> rfl

set_option maxHeartbeats 400000 in
theorem rword_any (p : Int) (w : World) (h0 : 0 ≤ p) (h1 : p ≤ 255) : Calls Tryd.prog 13 #[.int .u8 p] w fun e w' => e = .returned (wdv p) ∧ Below w.heap.size w w' := by
  by_cases a : p ≤ 10
  · obtain ⟨n, rfl⟩ := Int.eq_ofNat_of_zero_le h0
    have hx := words_at (n := n) (by omega)
    go_enter Tryd.func13, Tryd.ntmps13
    go_wp2
    go_ret
    exact ⟨rfl, (Below.refl _ _).alloc (Nat.le_refl _) _⟩
  · go_enter Tryd.func13, Tryd.ntmps13
    go_wp2
    go_ret
    refine ⟨?_, (Below.refl _ _).alloc (Nat.le_refl _) _⟩
    unfold wdv wdb
    rw [wd_high (by omega)]
    rfl

def hold1 (p : Int) : Bool := decide (2 ≤ p) && decide (p ≤ 6)
def hold2 (p : Int) : Bool := decide (p = 4)
def hold3 (p : Int) : Bool := decide (p = 2) || decide (p = 6)

theorem ret3 {a a' b b' c c' : Bool} (h1 : a = a') (h2 : b = b') (h3 : c = c') : Ending.returned (.tuple #[.bool a, .bool b, .bool c]) = .returned (.tuple #[.bool a', .bool b', .bool c']) := by rw [h1, h2, h3]

set_option maxHeartbeats 400000 in
theorem holds_any (p : Int) (w : World) : Calls Tryd.prog 11 #[.int .u8 p] w fun e w' => e = .returned (.tuple #[.bool (hold1 p), .bool (hold2 p), .bool (hold3 p)]) ∧ w' = w := by
  have : p < 2 ∨ p = 2 ∨ p = 3 ∨ p = 4 ∨ p = 5 ∨ p = 6 ∨ 6 < p := by omega
  rcases this with h | rfl | rfl | rfl | rfl | rfl | h
  all_goals
    go_enter Tryd.func11, Tryd.ntmps11
    go_wp2
    go_ret3
    exact ⟨ret3 (by unfold hold1; rw [Bool.eq_iff_iff]; simp; try omega) (by unfold hold2; rw [Bool.eq_iff_iff]; simp) (by unfold hold3; rw [Bool.eq_iff_iff]; simp), rfl⟩

/-- The answers, as one chain of tests. -/
theorem nx_eq (h0 h1 h2 h3 : Bool) (p q : Int) : nx h0 h1 h2 h3 p q =
    if 1 ≤ p ∧ p < 7 ∧ q = 10 then some 9 else
    if p = 1 ∧ q = 1 then some (if h0 = true then 2 else 3) else
    if p = 2 ∧ q = 2 then some (3) else
    if p = 3 ∧ q = 3 then some (4) else
    if p = 4 ∧ q = 4 then some (if h1 = true then 5 else 7) else
    if p = 4 ∧ q = 5 then some (8) else
    if p = 4 ∧ q = 6 then some (if h1 = true then 5 else 10) else
    if p = 5 ∧ q = 7 then some (6) else
    if p = 6 ∧ q = 8 then some (if h2 = true then 7 else 10) else
    if p = 2 ∧ q = 9 then some (8) else
    if p = 6 ∧ q = 9 then some (8) else
    if p = 4 ∧ q = 11 then some (if h3 = true then 1 else 8) else
    none := by
  unfold nx nxk nx0 rowsL
  by_cases hc : 1 ≤ p ∧ p < 7 ∧ q = 10
  · rw [if_pos hc, if_pos (by simpa using hc)]
  rw [if_neg hc, if_neg (by simpa using hc)]
  by_cases c1_1 : p = 1 ∧ q = 1
  · rw [List.find?_cons_of_pos (by simpa using ⟨c1_1.1.symm, c1_1.2.symm⟩), if_pos c1_1]; rfl
  rw [List.find?_cons_of_neg (by simp only [decide_eq_true_eq]; exact fun h => c1_1 ⟨h.1.symm, h.2.symm⟩), if_neg c1_1]
  by_cases c2_2 : p = 2 ∧ q = 2
  · rw [List.find?_cons_of_pos (by simpa using ⟨c2_2.1.symm, c2_2.2.symm⟩), if_pos c2_2]; rfl
  rw [List.find?_cons_of_neg (by simp only [decide_eq_true_eq]; exact fun h => c2_2 ⟨h.1.symm, h.2.symm⟩), if_neg c2_2]
  by_cases c3_3 : p = 3 ∧ q = 3
  · rw [List.find?_cons_of_pos (by simpa using ⟨c3_3.1.symm, c3_3.2.symm⟩), if_pos c3_3]; rfl
  rw [List.find?_cons_of_neg (by simp only [decide_eq_true_eq]; exact fun h => c3_3 ⟨h.1.symm, h.2.symm⟩), if_neg c3_3]
  by_cases c4_4 : p = 4 ∧ q = 4
  · rw [List.find?_cons_of_pos (by simpa using ⟨c4_4.1.symm, c4_4.2.symm⟩), if_pos c4_4]; rfl
  rw [List.find?_cons_of_neg (by simp only [decide_eq_true_eq]; exact fun h => c4_4 ⟨h.1.symm, h.2.symm⟩), if_neg c4_4]
  by_cases c4_5 : p = 4 ∧ q = 5
  · rw [List.find?_cons_of_pos (by simpa using ⟨c4_5.1.symm, c4_5.2.symm⟩), if_pos c4_5]; rfl
  rw [List.find?_cons_of_neg (by simp only [decide_eq_true_eq]; exact fun h => c4_5 ⟨h.1.symm, h.2.symm⟩), if_neg c4_5]
  by_cases c4_6 : p = 4 ∧ q = 6
  · rw [List.find?_cons_of_pos (by simpa using ⟨c4_6.1.symm, c4_6.2.symm⟩), if_pos c4_6]; rfl
  rw [List.find?_cons_of_neg (by simp only [decide_eq_true_eq]; exact fun h => c4_6 ⟨h.1.symm, h.2.symm⟩), if_neg c4_6]
  by_cases c5_7 : p = 5 ∧ q = 7
  · rw [List.find?_cons_of_pos (by simpa using ⟨c5_7.1.symm, c5_7.2.symm⟩), if_pos c5_7]; rfl
  rw [List.find?_cons_of_neg (by simp only [decide_eq_true_eq]; exact fun h => c5_7 ⟨h.1.symm, h.2.symm⟩), if_neg c5_7]
  by_cases c6_8 : p = 6 ∧ q = 8
  · rw [List.find?_cons_of_pos (by simpa using ⟨c6_8.1.symm, c6_8.2.symm⟩), if_pos c6_8]; rfl
  rw [List.find?_cons_of_neg (by simp only [decide_eq_true_eq]; exact fun h => c6_8 ⟨h.1.symm, h.2.symm⟩), if_neg c6_8]
  by_cases c2_9 : p = 2 ∧ q = 9
  · rw [List.find?_cons_of_pos (by simpa using ⟨c2_9.1.symm, c2_9.2.symm⟩), if_pos c2_9]; rfl
  rw [List.find?_cons_of_neg (by simp only [decide_eq_true_eq]; exact fun h => c2_9 ⟨h.1.symm, h.2.symm⟩), if_neg c2_9]
  by_cases c6_9 : p = 6 ∧ q = 9
  · rw [List.find?_cons_of_pos (by simpa using ⟨c6_9.1.symm, c6_9.2.symm⟩), if_pos c6_9]; rfl
  rw [List.find?_cons_of_neg (by simp only [decide_eq_true_eq]; exact fun h => c6_9 ⟨h.1.symm, h.2.symm⟩), if_neg c6_9]
  by_cases c4_11 : p = 4 ∧ q = 11
  · rw [List.find?_cons_of_pos (by simpa using ⟨c4_11.1.symm, c4_11.2.symm⟩), if_pos c4_11]; rfl
  rw [List.find?_cons_of_neg (by simp only [decide_eq_true_eq]; exact fun h => c4_11 ⟨h.1.symm, h.2.symm⟩), if_neg c4_11]
  rfl

theorem ret_nx {h0 h1 h2 h3 : Bool} {p q v e : Int} (h : nx h0 h1 h2 h3 p q = if e = 0 then some v else none) (he : e = 0 ∨ (e = 220 ∧ v = 0)) :
    Ending.returned (.tuple #[.int .u8 v, .int .i64 e]) = .returned (.tuple #[.int .u8 (nxV h0 h1 h2 h3 p q), .int .i64 (nxE h0 h1 h2 h3 p q)]) := by
  unfold nxV nxE
  rw [h]
  rcases he with rfl | ⟨rfl, rfl⟩ <;> rfl

set_option maxHeartbeats 1000000 in
theorem rnext_any (p q : Int) (h0 h1 h2 h3 : Bool) (w : World) :
    Calls Tryd.prog 10 #[.int .u8 p, .int .u8 q, .agg #[.bool h0, .bool h1, .bool h2, .bool h3]] w fun e w' => e = .returned (.tuple #[.int .u8 (nxV h0 h1 h2 h3 p q), .int .i64 (nxE h0 h1 h2 h3 p q)]) ∧ Below w.heap.size w w' := by
  go_enter Tryd.func10, Tryd.ntmps10
  go_wp2
  all_goals
    go_ret2
    refine ⟨ret_nx ?_ (by decide), ?_⟩
    · as_aux_lemma =>
        rw [nx_eq]
        simp_all
        try omega
    · first
        | exact Below.refl _ _
        | exact (Below.refl _ _).alloc (Nat.le_refl _) _
end Go.Proofs.YtmfbkaepkooneaaDoor
