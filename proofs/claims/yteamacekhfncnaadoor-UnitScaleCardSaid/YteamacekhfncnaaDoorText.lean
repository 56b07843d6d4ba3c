/-
  unit.Text and unit.SizeText: they answer what the plain functions say, for every int64, where the units' table and the powers of ten stand. Nothing else is asked.
-/
import Derived.Test.YteamacekhfncnaaDoorRSize
import Derived.Lib.AppendIntMem
namespace Go.Proofs.YteamacekhfncnaaDoor
open Go.RowKit

def Pow (w : World) : Prop := Lib.TabIs Tryd.prog w "internal/strconv.uint64pow10" .u64 Lib.pow10Tab

theorem var_below {P : Program} {w w' : World} {name : String} {cs : Array Value} (h : w.var? P name = some cs) (hb : Below w.heap.size w w') : w'.var? P name = some cs := by
  unfold World.var? at *
  cases hg : P.globalNamed name with
  | none => rw [hg] at h; simp at h
  | some g =>
    rw [hg] at h
    simp only [Option.bind_some] at h ⊢
    have hlt : g < w.heap.size := by
      rcases Nat.lt_or_ge g w.heap.size with h' | h'
      · exact h'
      · simp [Array.getElem?_eq_none h'] at h
    rw [hb.block g hlt]; exact h
theorem Pow.below {w w' : World} (h : Pow w) (hb : Below w.heap.size w w') : Pow w' := var_below h hb

theorem itoa_text {n : Int} (h0 : 0 ≤ n) (h1 : n ≤ 1099511627776) : Lib.itoa n = textL n := by
  unfold Lib.itoa textL
  rw [if_neg (by omega), if_pos ⟨h0, by unfold top; omega⟩]
theorem text_out {n : Int} (h : ¬ (0 ≤ n ∧ n ≤ 1099511627776)) : textL n = [] := by
  unfold textL
  rw [if_neg (by unfold top; omega)]

set_option maxHeartbeats 400000 in
theorem text_any (n : Int) (w : World) (h0 : -9223372036854775808 ≤ n) (h1 : n ≤ 9223372036854775807) (hp : Pow w) : Calls Tryd.prog 14 #[.int .i64 n] w fun e w' => e = .returned (.string ⟨(textL n).toArray⟩) ∧ Below w.heap.size w w' := by
  by_cases hq : 0 ≤ n ∧ n ≤ 1099511627776
  · rw [← itoa_text hq.1 hq.2]
    have hs : satI n = n := by unfold satI; rw [if_neg (by omega), if_neg (by omega)]
    have HP := Lib.hid hp
    clear hp hq
    go_enter Tryd.func14, Tryd.ntmps14
    go_wp2_with fail
    refine (of_any _ _ (by omega) (by omega)).mono ?_
    rintro e w' ⟨rfl, rfl⟩
    go_wp2_with fail
    refine (Tryd.strconv_FormatInt_10 n h0 h1 _ HP.out).mono ?_
    rintro e w' ⟨rfl, k, os, rfl⟩
    have hb := Lib.below_grow w.heap.size w (Nat.le_refl _) k os
    generalize Sort.grow (w.drewN k) os = w2 at *
    go_wp2
    go_ret
    exact ⟨rfl, hb⟩
  · rw [text_out hq]
    have hs : (n != satI n) = true := by unfold satI; rw [bne_iff_ne]; split <;> (try split) <;> omega
    clear hq hp
    go_enter Tryd.func14, Tryd.ntmps14
    go_wp2_with fail
    refine (of_any _ _ (by omega) (by omega)).mono ?_
    rintro e w' ⟨rfl, rfl⟩
    go_wp2
    go_ret
    exact ⟨rfl, Below.refl _ _⟩


def arrV : Value := .agg #[.string ⟨#[84, 105, 66]⟩, .string ⟨#[71, 105, 66]⟩, .string ⟨#[77, 105, 66]⟩, .string ⟨#[75, 105, 66]⟩]
def nameK : List (List UInt8 × Int) := [([84, 105, 66], 1099511627776), ([71, 105, 66], 1073741824), ([77, 105, 66], 1048576), ([75, 105, 66], 1024)]
def sizeTextL (n : Int) : List UInt8 := if 0 < n ∧ n ≤ 1099511627776 then match nameK.find? (fun p => n % p.2 == 0) with | some p => textL (n.tdiv p.2) ++ p.1 | none => textL n else textL n

theorem look_at {w : World} {bm : Nat} (hu : Units w) (hc : w.cell? ⟨0, 0, none⟩ = some (.map (some bm))) (u : ByteArray) (b : Int) (hn : u.data.toList ≠ []) (hs : u.size ≤ maxLen) (hb : byU u.data.toList = b) : (Instr.lookup 41 (.map (some bm)) (.string u) false).run Tryd.prog w = .ok (.int .i64 b) w := by
  obtain ⟨bm', h1, h2⟩ := hu.look u hn hs
  rw [hc] at h1
  obtain rfl := Option.some.inj (Value.map.inj (Option.some.inj h1))
  rw [← hb]; exact h2

set_option maxRecDepth 100000 in
set_option maxHeartbeats 1000000 in
/-- No quantity, or none above zero: the text alone. -/
theorem sizetext_low (n : Int) (w : World) (h0 : -9223372036854775808 ≤ n) (h1 : n ≤ 0) (hp : Pow w) (hu : Units w) : Calls Tryd.prog 15 #[.int .i64 n] w fun e w' => e = .returned (.string ⟨(textL n).toArray⟩) ∧ Below w.heap.size w w' := by
  obtain ⟨bm, hc, hx⟩ := hu.look ⟨#[84, 105, 66]⟩ (by decide) (by decide)
  clear hx
  have l0 := look_at hu hc ⟨#[84, 105, 66]⟩ 1099511627776 (by decide) (by decide) (by decide)
  have l1 := look_at hu hc ⟨#[71, 105, 66]⟩ 1073741824 (by decide) (by decide) (by decide)
  have l2 := look_at hu hc ⟨#[77, 105, 66]⟩ 1048576 (by decide) (by decide) (by decide)
  have l3 := look_at hu hc ⟨#[75, 105, 66]⟩ 1024 (by decide) (by decide) (by decide)
  have x0 : ∀ w : World, (Instr.index 44 arrV (.int .i64 0)).run Tryd.prog w = .ok (.string ⟨#[84, 105, 66]⟩) w := fun _ => by kernel_rfl
  have x1 : ∀ w : World, (Instr.index 44 arrV (.int .i64 1)).run Tryd.prog w = .ok (.string ⟨#[71, 105, 66]⟩) w := fun _ => by kernel_rfl
  have x2 : ∀ w : World, (Instr.index 44 arrV (.int .i64 2)).run Tryd.prog w = .ok (.string ⟨#[77, 105, 66]⟩) w := fun _ => by kernel_rfl
  have x3 : ∀ w : World, (Instr.index 44 arrV (.int .i64 3)).run Tryd.prog w = .ok (.string ⟨#[75, 105, 66]⟩) w := fun _ => by kernel_rfl
  unfold arrV at x0 x1 x2 x3
  have HP := Lib.hid hp
  clear hp
  go_enter Tryd.func15, Tryd.ntmps15
  go_wp2
  go_loop [7] (fun i => ∃ k : Nat, k ≤ 4 ∧ i = .int .i64 k) (fun i => 4 - (intOf i).toNat)
  case atStart => exact ⟨0, by omega, rfl⟩
  case round =>
    obtain ⟨k, hk, rfl⟩ := hrel
    by_cases h4 : k = 4
    · subst h4
      go_wp2_with fail
      refine (text_any n _ (by omega) (by omega) HP.out).mono ?_
      rintro e w' ⟨rfl, hb⟩
      go_wp2
      go_ret
      exact ⟨rfl, hb⟩
    rcases (show k = 0 ∨ k = 1 ∨ k = 2 ∨ k = 3 from by omega) with rfl | rfl | rfl | rfl
    all_goals
      go_wp2_with fail
      go_round
      case rel => exact ⟨_, (by decide : _ + 1 ≤ 4), rfl⟩
      case measure => simp [intOf]

set_option maxRecDepth 100000 in
set_option maxHeartbeats 1000000 in
theorem sizetext_high (n : Int) (w : World) (h0 : 1099511627776 < n) (h1 : n ≤ 9223372036854775807) (hp : Pow w) (hu : Units w) : Calls Tryd.prog 15 #[.int .i64 n] w fun e w' => e = .returned (.string ⟨(textL n).toArray⟩) ∧ Below w.heap.size w w' := by
  obtain ⟨bm, hc, hx⟩ := hu.look ⟨#[84, 105, 66]⟩ (by decide) (by decide)
  clear hx
  have l0 := look_at hu hc ⟨#[84, 105, 66]⟩ 1099511627776 (by decide) (by decide) (by decide)
  have l1 := look_at hu hc ⟨#[71, 105, 66]⟩ 1073741824 (by decide) (by decide) (by decide)
  have l2 := look_at hu hc ⟨#[77, 105, 66]⟩ 1048576 (by decide) (by decide) (by decide)
  have l3 := look_at hu hc ⟨#[75, 105, 66]⟩ 1024 (by decide) (by decide) (by decide)
  have x0 : ∀ w : World, (Instr.index 44 arrV (.int .i64 0)).run Tryd.prog w = .ok (.string ⟨#[84, 105, 66]⟩) w := fun _ => by kernel_rfl
  have x1 : ∀ w : World, (Instr.index 44 arrV (.int .i64 1)).run Tryd.prog w = .ok (.string ⟨#[71, 105, 66]⟩) w := fun _ => by kernel_rfl
  have x2 : ∀ w : World, (Instr.index 44 arrV (.int .i64 2)).run Tryd.prog w = .ok (.string ⟨#[77, 105, 66]⟩) w := fun _ => by kernel_rfl
  have x3 : ∀ w : World, (Instr.index 44 arrV (.int .i64 3)).run Tryd.prog w = .ok (.string ⟨#[75, 105, 66]⟩) w := fun _ => by kernel_rfl
  unfold arrV at x0 x1 x2 x3
  have HP := Lib.hid hp
  clear hp
  have hs : (n == satI n) = false := by unfold satI; rw [beq_eq_false_iff_ne]; split <;> (try split) <;> omega
  go_enter Tryd.func15, Tryd.ntmps15
  go_wp2
  go_loop [7] (fun i => ∃ k : Nat, k ≤ 4 ∧ i = .int .i64 k) (fun i => 4 - (intOf i).toNat)
  case atStart => exact ⟨0, by omega, rfl⟩
  case round =>
    obtain ⟨k, hk, rfl⟩ := hrel
    by_cases h4 : k = 4
    · subst h4
      go_wp2_with fail
      refine (text_any n _ (by omega) (by omega) HP.out).mono ?_
      rintro e w' ⟨rfl, hb⟩
      go_wp2
      go_ret
      exact ⟨rfl, hb⟩
    rcases (show k = 0 ∨ k = 1 ∨ k = 2 ∨ k = 3 from by omega) with rfl | rfl | rfl | rfl
    all_goals
      go_wp2_with fail
      refine (of_any _ _ (by omega) (by omega)).mono ?_
      rintro e w' ⟨rfl, rfl⟩
      go_wp2_with fail
      go_round
      case rel => exact ⟨_, (by decide : _ + 1 ≤ 4), rfl⟩
      case measure => simp [intOf]

theorem ret_str {a b : List UInt8} (h : a = b) : Ending.returned (.string ⟨a.toArray⟩) = .returned (.string ⟨b.toArray⟩) := by rw [h]
theorem cat_str (a b : List UInt8) : (⟨a.toArray⟩ : ByteArray) ++ ⟨b.toArray⟩ = ⟨(a ++ b).toArray⟩ := by
  apply ByteArray.ext
  simp
theorem ret_cat {a b c : List UInt8} (h : a ++ b = c) : Ending.returned (.string (⟨a.toArray⟩ ++ ⟨b.toArray⟩)) = .returned (.string ⟨c.toArray⟩) := by rw [cat_str, h]
theorem textL_len (n : Int) : (textL n).length ≤ 13 := by
  unfold textL
  split
  · rename_i h
    exact decDigits_len 12 n.toNat (by have := h.2; unfold top at this; omega)
  · simp
theorem find_k {n : Int} {k : Nat} {q : List UInt8 × Int} (h0 : (nameK.take k).all (fun p => !(n % p.2 == 0)) = true) (h : nameK[k]? = some q) (h2 : (n % q.2 == 0) = true) (h1 : 0 < n ∧ n ≤ 1099511627776) : textL (n.tdiv q.2) ++ q.1 = sizeTextL n := by
  have hf : ∀ (l : List (List UInt8 × Int)) (k : Nat), (l.take k).all (fun p => !(n % p.2 == 0)) = true → l[k]? = some q → l.find? (fun p => n % p.2 == 0) = some q := by
    intro l
    induction l with
    | nil => intro k _ h; simp at h
    | cons x r ih =>
      intro k h0 h
      cases k with
      | zero =>
        simp only [List.getElem?_cons_zero, Option.some.injEq] at h
        subst h
        rw [List.find?_cons, h2]
      | succ k =>
        simp only [List.take_succ_cons, List.all_cons, Bool.and_eq_true, Bool.not_eq_true'] at h0
        simp only [List.getElem?_cons_succ] at h
        rw [List.find?_cons, h0.1]
        exact ih k h0.2 h
  unfold sizeTextL
  rw [if_pos h1, hf nameK k h0 h]
theorem find_no {n : Int} (h0 : (nameK.take 4).all (fun p => !(n % p.2 == 0)) = true) : textL n = sizeTextL n := by
  have : nameK.find? (fun p => n % p.2 == 0) = none := by
    rw [List.find?_eq_none]
    intro p hp
    have := List.all_eq_true.1 h0 p hp
    simpa using this
  unfold sizeTextL
  rw [this]; simp
theorem next_k {n : Int} {k : Nat} {q : List UInt8 × Int} (h0 : (nameK.take k).all (fun p => !(n % p.2 == 0)) = true) (h : nameK[k]? = some q) (h2 : (n % q.2 == 0) = false) : (nameK.take (k + 1)).all (fun p => !(n % p.2 == 0)) = true := by
  rw [List.take_add_one, List.all_append, h0, h]
  simp only [Option.toList_some, List.all_cons, List.all_nil, Bool.and_true, h2, Bool.not_false]

set_option maxRecDepth 100000 in
set_option maxHeartbeats 1000000 in
theorem sizetext_mid (n : Int) (w : World) (h0 : 0 < n) (h1 : n ≤ 1099511627776) (hp : Pow w) (hu : Units w) : Calls Tryd.prog 15 #[.int .i64 n] w fun e w' => e = .returned (.string ⟨(sizeTextL n).toArray⟩) ∧ Below w.heap.size w w' := by
  obtain ⟨bm, hc, hx⟩ := hu.look ⟨#[84, 105, 66]⟩ (by decide) (by decide)
  clear hx
  have l0 := look_at hu hc ⟨#[84, 105, 66]⟩ 1099511627776 (by decide) (by decide) (by decide)
  have l1 := look_at hu hc ⟨#[71, 105, 66]⟩ 1073741824 (by decide) (by decide) (by decide)
  have l2 := look_at hu hc ⟨#[77, 105, 66]⟩ 1048576 (by decide) (by decide) (by decide)
  have l3 := look_at hu hc ⟨#[75, 105, 66]⟩ 1024 (by decide) (by decide) (by decide)
  have x0 : ∀ w : World, (Instr.index 44 arrV (.int .i64 0)).run Tryd.prog w = .ok (.string ⟨#[84, 105, 66]⟩) w := fun _ => by kernel_rfl
  have x1 : ∀ w : World, (Instr.index 44 arrV (.int .i64 1)).run Tryd.prog w = .ok (.string ⟨#[71, 105, 66]⟩) w := fun _ => by kernel_rfl
  have x2 : ∀ w : World, (Instr.index 44 arrV (.int .i64 2)).run Tryd.prog w = .ok (.string ⟨#[77, 105, 66]⟩) w := fun _ => by kernel_rfl
  have x3 : ∀ w : World, (Instr.index 44 arrV (.int .i64 3)).run Tryd.prog w = .ok (.string ⟨#[75, 105, 66]⟩) w := fun _ => by kernel_rfl
  unfold arrV at x0 x1 x2 x3
  have HP := Lib.hid hp
  clear hp
  have hs : (n == satI n) = true := by unfold satI; rw [if_neg (by omega), if_neg (by omega)]; simp
  go_enter Tryd.func15, Tryd.ntmps15
  go_wp2
  go_loop [7] (fun i => ∃ k : Nat, k ≤ 4 ∧ i = .int .i64 k ∧ (nameK.take k).all (fun p => !(n % p.2 == 0)) = true) (fun i => 4 - (intOf i).toNat)
  case atStart => exact ⟨0, by omega, rfl, rfl⟩
  case round =>
    obtain ⟨k, hk, rfl, hall⟩ := hrel
    have HA := Lib.hid hall
    clear hall
    by_cases h4 : k = 4
    · subst h4
      go_wp2_with fail
      refine (text_any n _ (by omega) (by omega) HP.out).mono ?_
      rintro e w' ⟨rfl, hb⟩
      go_wp2
      go_ret
      exact ⟨ret_str (find_no HA.out), hb⟩
    rcases (show k = 0 ∨ k = 1 ∨ k = 2 ∨ k = 3 from by omega) with rfl | rfl | rfl | rfl
    · have hd : 0 ≤ n.tdiv 1099511627776 ∧ n.tdiv 1099511627776 ≤ 1099511627776 := by rw [Int.tdiv_eq_ediv_of_nonneg (by omega)]; omega
      have ht : 0 ≤ n % 1099511627776 ∧ n % 1099511627776 ≤ 1099511627776 := by omega
      obtain ⟨d1, d2⟩ := hd
      obtain ⟨t1, t2⟩ := ht
      cases hm : n % 1099511627776 == 0 with
      | false =>
        go_wp2_with fail
        refine (of_any _ _ (by omega) (by omega)).mono ?_
        rintro e w' ⟨rfl, rfl⟩
        go_wp2_with fail
        go_round
        case rel => exact ⟨_, (by decide : _ + 1 ≤ 4), rfl, next_k HA.out rfl hm⟩
        case measure => simp [intOf]
      | true =>
        go_wp2_with fail
        refine (of_any _ _ (by omega) (by omega)).mono ?_
        rintro e w' ⟨rfl, rfl⟩
        go_wp2_with fail
        refine (text_any (n.tdiv 1099511627776) _ (by omega) (by omega) HP.out).mono ?_
        rintro e w' ⟨rfl, hb⟩
        have hlen := textL_len (n.tdiv 1099511627776)
        go_wp2_with fail
        go_ret
        exact ⟨ret_cat (find_k HA.out rfl hm ⟨h0, h1⟩), hb⟩
    · have hd : 0 ≤ n.tdiv 1073741824 ∧ n.tdiv 1073741824 ≤ 1099511627776 := by rw [Int.tdiv_eq_ediv_of_nonneg (by omega)]; omega
      have ht : 0 ≤ n % 1073741824 ∧ n % 1073741824 ≤ 1099511627776 := by omega
      obtain ⟨d1, d2⟩ := hd
      obtain ⟨t1, t2⟩ := ht
      cases hm : n % 1073741824 == 0 with
      | false =>
        go_wp2_with fail
        refine (of_any _ _ (by omega) (by omega)).mono ?_
        rintro e w' ⟨rfl, rfl⟩
        go_wp2_with fail
        go_round
        case rel => exact ⟨_, (by decide : _ + 1 ≤ 4), rfl, next_k HA.out rfl hm⟩
        case measure => simp [intOf]
      | true =>
        go_wp2_with fail
        refine (of_any _ _ (by omega) (by omega)).mono ?_
        rintro e w' ⟨rfl, rfl⟩
        go_wp2_with fail
        refine (text_any (n.tdiv 1073741824) _ (by omega) (by omega) HP.out).mono ?_
        rintro e w' ⟨rfl, hb⟩
        have hlen := textL_len (n.tdiv 1073741824)
        go_wp2_with fail
        go_ret
        exact ⟨ret_cat (find_k HA.out rfl hm ⟨h0, h1⟩), hb⟩
    · have hd : 0 ≤ n.tdiv 1048576 ∧ n.tdiv 1048576 ≤ 1099511627776 := by rw [Int.tdiv_eq_ediv_of_nonneg (by omega)]; omega
      have ht : 0 ≤ n % 1048576 ∧ n % 1048576 ≤ 1099511627776 := by omega
      obtain ⟨d1, d2⟩ := hd
      obtain ⟨t1, t2⟩ := ht
      cases hm : n % 1048576 == 0 with
      | false =>
        go_wp2_with fail
        refine (of_any _ _ (by omega) (by omega)).mono ?_
        rintro e w' ⟨rfl, rfl⟩
        go_wp2_with fail
        go_round
        case rel => exact ⟨_, (by decide : _ + 1 ≤ 4), rfl, next_k HA.out rfl hm⟩
        case measure => simp [intOf]
      | true =>
        go_wp2_with fail
        refine (of_any _ _ (by omega) (by omega)).mono ?_
        rintro e w' ⟨rfl, rfl⟩
        go_wp2_with fail
        refine (text_any (n.tdiv 1048576) _ (by omega) (by omega) HP.out).mono ?_
        rintro e w' ⟨rfl, hb⟩
        have hlen := textL_len (n.tdiv 1048576)
        go_wp2_with fail
        go_ret
        exact ⟨ret_cat (find_k HA.out rfl hm ⟨h0, h1⟩), hb⟩
    · have hd : 0 ≤ n.tdiv 1024 ∧ n.tdiv 1024 ≤ 1099511627776 := by rw [Int.tdiv_eq_ediv_of_nonneg (by omega)]; omega
      have ht : 0 ≤ n % 1024 ∧ n % 1024 ≤ 1099511627776 := by omega
      obtain ⟨d1, d2⟩ := hd
      obtain ⟨t1, t2⟩ := ht
      cases hm : n % 1024 == 0 with
      | false =>
        go_wp2_with fail
        refine (of_any _ _ (by omega) (by omega)).mono ?_
        rintro e w' ⟨rfl, rfl⟩
        go_wp2_with fail
        go_round
        case rel => exact ⟨_, (by decide : _ + 1 ≤ 4), rfl, next_k HA.out rfl hm⟩
        case measure => simp [intOf]
      | true =>
        go_wp2_with fail
        refine (of_any _ _ (by omega) (by omega)).mono ?_
        rintro e w' ⟨rfl, rfl⟩
        go_wp2_with fail
        refine (text_any (n.tdiv 1024) _ (by omega) (by omega) HP.out).mono ?_
        rintro e w' ⟨rfl, hb⟩
        have hlen := textL_len (n.tdiv 1024)
        go_wp2_with fail
        go_ret
        exact ⟨ret_cat (find_k HA.out rfl hm ⟨h0, h1⟩), hb⟩

theorem sizetext_any (n : Int) (w : World) (h0 : -9223372036854775808 ≤ n) (h1 : n ≤ 9223372036854775807) (hp : Pow w) (hu : Units w) : Calls Tryd.prog 15 #[.int .i64 n] w fun e w' => e = .returned (.string ⟨(sizeTextL n).toArray⟩) ∧ Below w.heap.size w w' := by
  by_cases a : n ≤ 0
  · have := sizetext_low n w h0 a hp hu
    rwa [show textL n = sizeTextL n from by unfold sizeTextL; rw [if_neg (by omega)]] at this
  by_cases b : n ≤ 1099511627776
  · exact sizetext_mid n w (by omega) b hp hu
  · have := sizetext_high n w (by omega) h1 hp hu
    rwa [show textL n = sizeTextL n from by unfold sizeTextL; rw [if_neg (by omega)]] at this
end Go.Proofs.YteamacekhfncnaaDoor
