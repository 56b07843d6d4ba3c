/-
  Numbers, sizes and names as texts, as plain functions on lists of bytes, and what holds of them. No program in sight; nothing is asked.
-/
import Derived.Lib.ItoaMem
import Derived.Lib.ParseIntB
import Derived.Lib.SlTrimSet
namespace Go.Proofs.YteamacekhfncnaaDoor
open Go.Lib (decDigits trimS trimLeftS trimRightS parseIntB parseUintB parseUintM NumEnd)

def isDig (b : UInt8) : Bool := decide (48 ≤ b.toNat ∧ b.toNat ≤ 57)
def stepV (n : Nat) (b : UInt8) : Nat := n * 10 + (b.toNat - 48)
def val (l : List UInt8) : Nat := l.foldl stepV 0
def top : Nat := 1099511627776
def digs : List UInt8 := [48, 49, 50, 51, 52, 53, 54, 55, 56, 57]
def lets : List UInt8 := [75, 77, 71, 84, 105, 66]
/-- A number's text: digits alone, 1 to 13 of them, no zero ahead of others, at most top. -/
def okN (l : List UInt8) : Bool := l.all isDig && decide (1 ≤ l.length) && decide (l.length ≤ 13) && !(decide (1 < l.length) && decide (l.head? = some 48)) && decide (val l ≤ top)
def numV (l : List UInt8) : Int := if okN l = true then (val l : Int) else 0
def numE (l : List UInt8) : Int := if okN l = true then 0 else 130

theorem all_u8 {p : UInt8 → Bool} (h : (List.range 256).all (fun n => p (UInt8.ofNat n)) = true) (b : UInt8) : p b = true := by
  have := List.all_eq_true.1 h b.toNat (List.mem_range.2 b.toNat_lt)
  simpa using this
theorem digs_contains (b : UInt8) : digs.contains b = isDig b := by
  have := all_u8 (p := fun b => digs.contains b == isDig b) (by decide +kernel) b
  simpa using this
theorem lets_dig (b : UInt8) (h : lets.contains b = true) : isDig b = false := by
  have := all_u8 (p := fun b => !(lets.contains b && isDig b)) (by decide +kernel) b
  rw [h] at this
  simpa using this

theorem foldl_ge (l : List UInt8) : ∀ n, l.foldl stepV n < (n + 1) * 10 ^ l.length ∨ l.all isDig = false := by
  induction l with
  | nil => intro n; left; simp
  | cons b r ih =>
    intro n
    rcases ih (stepV n b) with h | h
    · by_cases hb : isDig b = true
      · left
        simp only [List.foldl_cons, List.length_cons]
        refine Nat.lt_of_lt_of_le h ?_
        have hb' : b.toNat - 48 ≤ 9 := by simp [isDig] at hb; omega
        rw [Nat.pow_succ, Nat.mul_comm (10 ^ r.length) 10, ← Nat.mul_assoc]
        refine Nat.mul_le_mul_right _ ?_
        unfold stepV
        omega
      · right; simp [hb]
    · right; simp [h]
theorem val_lt {l : List UInt8} (h : l.all isDig = true) : val l < 10 ^ l.length := by
  rcases foldl_ge l 0 with h' | h'
  · simpa [val] using h'
  · rw [h] at h'; cases h'

theorem parseM_ok : ∀ (l : List UInt8) (acc : Nat), l.all isDig = true → (acc + 1) * 10 ^ l.length ≤ 10 ^ 14 → parseUintM (2 ^ 64 - 1) acc l = .ok (l.foldl stepV acc)
  | [], acc, _, _ => by simp [parseUintM]
  | b :: r, acc, h, hb => by
    simp only [List.all_cons, Bool.and_eq_true] at h
    have hd : 48 ≤ b.toNat ∧ b.toNat ≤ 57 := by simpa [isDig] using h.1
    have hle : (stepV acc b + 1) * 10 ^ r.length ≤ 10 ^ 14 := by
      refine Nat.le_trans ?_ hb
      rw [List.length_cons, Nat.pow_succ, Nat.mul_comm (10 ^ r.length) 10, ← Nat.mul_assoc]
      refine Nat.mul_le_mul_right _ ?_
      unfold stepV
      omega
    have hs : stepV acc b + 1 ≤ 10 ^ 14 := Nat.le_trans (Nat.le_mul_of_pos_right _ (Nat.pow_pos (by omega))) hle
    have hs' : acc * 10 + (b.toNat - 48) + 1 ≤ 100000000000000 := hs
    rw [parseUintM, if_pos hd, if_neg (by omega), if_neg (by omega)]
    exact parseM_ok r _ h.2 hle

theorem parse_ok {l : List UInt8} (h : l.all isDig = true) (h1 : 1 ≤ l.length) (h2 : l.length ≤ 13) : parseIntB 64 l = .ok (val l) := by
  cases l with
  | nil => simp at h1
  | cons c r =>
    have hd : 48 ≤ c.toNat ∧ c.toNat ≤ 57 := by
      simp only [List.all_cons, Bool.and_eq_true] at h
      simpa [isDig] using h.1
    have hp : parseUintB 64 (c :: r) = .ok (val (c :: r)) := by
      unfold parseUintB
      rw [if_neg (by simp)]
      refine parseM_ok _ 0 h ?_
      have : 10 ^ (c :: r).length ≤ 10 ^ 13 := Nat.pow_le_pow_right (by omega) h2
      omega
    have hv := val_lt h
    have : 10 ^ (c :: r).length ≤ 10 ^ 13 := Nat.pow_le_pow_right (by omega) h2
    have e1 : ¬ (c.toNat = 43 ∨ c.toNat = 45) := by omega
    have e2 : ¬ c.toNat = 45 := by omega
    have hb : val (c :: r) < 2 ^ 63 := Nat.lt_of_lt_of_le (Nat.lt_of_lt_of_le hv this) (by decide)
    unfold parseIntB
    simp only [if_neg e1]
    rw [hp]
    simp only [e2, not_false_eq_true, true_and, false_and, if_false]
    rw [if_neg (by simp at hb ⊢; exact hb)]

theorem dropWhile_nil {α : Type} {p : α → Bool} : ∀ {l : List α}, l.dropWhile p = [] ↔ l.all p = true
  | [] => by simp
  | x :: r => by
    cases h : p x
    · simp [h]
    · simp [h, dropWhile_nil (l := r)]
theorem trim_nil (l : List UInt8) : (trimS l digs = []) ↔ l.all isDig = true := by
  have hc : (fun b => digs.contains b) = isDig := funext digs_contains
  have hl : ∀ m : List UInt8, trimLeftS m digs = [] ↔ m.all isDig = true := by
    intro m
    unfold trimLeftS
    rw [hc]
    exact dropWhile_nil
  unfold trimS
  rw [hl]
  unfold trimRightS
  rw [hc]
  constructor
  · intro h
    have hsplit := List.takeWhile_append_dropWhile (p := isDig) (l := l.reverse)
    have h2 : (l.reverse.dropWhile isDig).all isDig = true := by
      rw [List.all_reverse] at h; exact h
    have h3 : (l.reverse.takeWhile isDig).all isDig = true := by simp
    have : l.reverse.all isDig = true := by
      rw [← hsplit, List.all_append, h2, h3]; rfl
    rw [List.all_reverse] at this; exact this
  · intro h
    have : l.reverse.dropWhile isDig = [] := dropWhile_nil.2 (by rw [List.all_reverse]; exact h)
    rw [this]; rfl

/-! ### Texts of numbers -/
theorem dig_toNat {u : Nat} (h : u < 10) : (UInt8.ofNat (48 + u)).toNat = 48 + u := by simp; omega
theorem dig_is {u : Nat} (h : u < 10) : isDig (UInt8.ofNat (48 + u)) = true := by
  unfold isDig; rw [dig_toNat h]; simp; omega
theorem stepV_dig (n : Nat) {u : Nat} (h : u < 10) : stepV n (UInt8.ofNat (48 + u)) = n * 10 + u := by
  unfold stepV; rw [dig_toNat h]; omega
theorem decDigits_all : ∀ u, (decDigits u).all isDig = true := by
  intro u
  induction u using Nat.strongRecOn with
  | ind u ih =>
    rw [decDigits]
    split
    · rename_i h
      simp only [List.all_cons, List.all_nil, Bool.and_true]; exact dig_is h
    · rename_i h
      rw [List.all_append, ih (u / 10) (by omega)]
      simp only [List.all_cons, List.all_nil, Bool.and_true, Bool.true_and]; exact dig_is (by omega)

theorem val_append (l : List UInt8) (b : UInt8) : val (l ++ [b]) = stepV (val l) b := by simp [val]
theorem val_decDigits : ∀ u, val (decDigits u) = u := by
  intro u
  induction u using Nat.strongRecOn with
  | ind u ih =>
    rw [decDigits]
    split
    · rename_i h
      show stepV 0 _ = u
      rw [stepV_dig 0 h]; omega
    · rename_i h
      rw [val_append, ih (u / 10) (by omega), stepV_dig _ (by omega)]
      omega

theorem decDigits_pos (u : Nat) : 1 ≤ (decDigits u).length := by
  rw [decDigits]; split <;> simp
theorem decDigits_head : ∀ u, 0 < u → (decDigits u).head? ≠ some 48 := by
  intro u
  induction u using Nat.strongRecOn with
  | ind u ih =>
    intro hu
    rw [decDigits]
    split
    · rename_i h
      intro e
      simp only [List.head?_cons, Option.some.injEq] at e
      have := congrArg UInt8.toNat e
      rw [dig_toNat h] at this
      simp at this; omega
    · rename_i h
      rw [List.head?_append]
      have h1 := ih (u / 10) (by omega) (by omega)
      cases hd : (decDigits (u / 10)).head? with
      | none =>
        have := decDigits_pos (u / 10)
        rw [List.head?_eq_none_iff] at hd
        rw [hd] at this; simp at this
      | some x => rw [hd] at h1; simpa using h1
theorem decDigits_len : ∀ (k u : Nat), u < 10 ^ (k + 1) → (decDigits u).length ≤ k + 1
  | 0, u, h => by rw [decDigits, dif_pos (by simpa using h)]; simp
  | k + 1, u, h => by
    rw [decDigits]
    split
    · simp
    · have := decDigits_len k (u / 10) (by rw [Nat.pow_succ] at h; omega)
      simp; omega
theorem decDigits_ok {u : Nat} (h : u ≤ top) : okN (decDigits u) = true := by
  have h13 : (decDigits u).length ≤ 13 := decDigits_len 12 u (by unfold top at h; omega)
  unfold okN
  simp only [decDigits_all, decDigits_pos, h13, val_decDigits, h, decide_true, Bool.and_true, Bool.true_and]
  by_cases h0 : u = 0
  · subst h0
    have : decDigits 0 = [48] := by rw [decDigits, dif_pos (by omega)]; rfl
    rw [this]; rfl
  · have := decDigits_head u (by omega)
    simp [this]

def textL (n : Int) : List UInt8 := if 0 ≤ n ∧ n ≤ top then decDigits n.toNat else []
theorem textL_num {n : Int} (h : 0 ≤ n ∧ n ≤ top) : numV (textL n) = n ∧ numE (textL n) = 0 := by
  unfold textL numV numE
  rw [if_pos h]
  have hk : okN (decDigits n.toNat) = true := decDigits_ok (by omega)
  rw [if_pos hk, if_pos hk, val_decDigits]
  exact ⟨by omega, rfl⟩
end Go.Proofs.YteamacekhfncnaaDoor
