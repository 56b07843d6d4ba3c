/-
  Sizes as texts: that a text is parted alike by its leading digits and by its trailing letters, wherever it is a size. No program in sight; nothing is asked.
-/
import Derived.Test.YteamacekhfncnaaDoorUnits
namespace Go.Proofs.YteamacekhfncnaaDoor
open Go.Lib (trimRightS)

def okAt (d u : List UInt8) : Bool := okN d && decide (byU u ≠ 0) && decide ((val d : Int) ≤ 1099511627776 / byU u)
def headD (l : List UInt8) : List UInt8 := l.takeWhile isDig
def tailD (l : List UInt8) : List UInt8 := l.dropWhile isDig
def sizeV (l : List UInt8) : Int := if okAt (headD l) (tailD l) = true then (val (headD l) : Int) * byU (tailD l) else 0
def sizeE (l : List UInt8) : Int := if okAt (headD l) (tailD l) = true then 0 else 130

theorem head_tail (l : List UInt8) : headD l ++ tailD l = l := List.takeWhile_append_dropWhile
theorem headD_all (l : List UInt8) : (headD l).all isDig = true := by unfold headD; simp

theorem byU_cases {u : List UInt8} (h : byU u ≠ 0) : u = [] ∨ (u ∈ [([75, 66] : List UInt8), [77, 66], [71, 66], [84, 66], [75, 105, 66], [77, 105, 66], [71, 105, 66], [84, 105, 66]]) := by
  by_cases h0 : u = []
  · exact .inl h0
  · refine .inr ?_
    refine Classical.byContradiction fun hn => h ?_
    have hne : ∀ a ∈ [([75, 66] : List UInt8), [77, 66], [71, 66], [84, 66], [75, 105, 66], [77, 105, 66], [71, 105, 66], [84, 105, 66]], (a == u) = false := by
      intro a ha
      rw [beq_eq_false_iff_ne]
      rintro rfl
      exact hn ha
    simp only [List.mem_cons, List.not_mem_nil, or_false, forall_eq_or_imp, forall_eq] at hne
    obtain ⟨a1, a2, a3, a4, a5, a6, a7, a8⟩ := hne
    have a0 : (([] : List UInt8) == u) = false := by rw [beq_eq_false_iff_ne]; exact fun h => h0 h.symm
    unfold byU unitL
    simp only [List.find?_cons, a0, a1, a2, a3, a4, a5, a6, a7, a8, List.find?_nil]

/-- A unit is letters alone, none of them a digit. -/
theorem byU_letters {u : List UInt8} (h : byU u ≠ 0) : u.all (fun b => lets.contains b) = true := by
  rcases byU_cases h with rfl | h
  · rfl
  · simp only [List.mem_cons, List.not_mem_nil, or_false] at h
    rcases h with rfl | rfl | rfl | rfl | rfl | rfl | rfl | rfl <;> decide
theorem byU_bd {u : List UInt8} (h : byU u ≠ 0) : 1 ≤ byU u ∧ byU u ≤ 1099511627776 := by
  rcases byU_cases h with rfl | h
  · decide
  · simp only [List.mem_cons, List.not_mem_nil, or_false] at h
    rcases h with rfl | rfl | rfl | rfl | rfl | rfl | rfl | rfl <;> decide

theorem takeWhile_app {p : UInt8 → Bool} : ∀ {d u : List UInt8}, d.all p = true → u.all (fun b => !p b) = true → (d ++ u).takeWhile p = d ∧ (d ++ u).dropWhile p = u
  | [], [], _, _ => ⟨rfl, rfl⟩
  | [], b :: r, _, hu => by
    have : p b = false := by simp at hu; exact hu.1
    simp [this]
  | b :: d, u, hd, hu => by
    simp only [List.all_cons, Bool.and_eq_true] at hd
    have := takeWhile_app hd.2 hu
    simp [hd.1, this.1, this.2]

theorem okN_all {l : List UInt8} (h : okN l = true) : l.all isDig = true ∧ 1 ≤ l.length := by
  unfold okN at h
  simp only [Bool.and_eq_true, decide_eq_true_eq] at h
  exact ⟨h.1.1.1.1, h.1.1.1.2⟩

/-- By the leading digits: where d is a number and u a unit. -/
theorem parted_head {l d u : List UInt8} (hl : d ++ u = l) (hd : okN d = true) (hu : byU u ≠ 0) : headD l = d ∧ tailD l = u := by
  subst hl
  have h1 := (okN_all hd).1
  have h2 : u.all (fun b => !isDig b) = true := by
    refine List.all_eq_true.2 fun b hb => ?_
    have := List.all_eq_true.1 (byU_letters hu) b hb
    simp [lets_dig b this]
  exact takeWhile_app h1 h2

/-- By the trailing letters: likewise. -/
theorem parted_tail {l d u : List UInt8} (hl : d ++ u = l) (hd : okN d = true) (hu : byU u ≠ 0) : trimRightS l lets = d := by
  subst hl
  obtain ⟨h1, _⟩ := okN_all hd
  have h2 := byU_letters hu
  unfold trimRightS
  have h3 := takeWhile_app (p := fun b => lets.contains b) (d := u.reverse) (u := d.reverse) (by rw [List.all_reverse]; exact h2) (by
    rw [List.all_reverse]
    refine List.all_eq_true.2 fun b hb => ?_
    have := List.all_eq_true.1 h1 b hb
    cases hc : lets.contains b
    · rfl
    · rw [lets_dig b hc] at this; cases this)
  rw [List.reverse_append, h3.2, List.reverse_reverse]

theorem trimRight_prefix (l cs : List UInt8) : trimRightS l cs ++ l.drop (trimRightS l cs).length = l := by
  unfold trimRightS
  have h := List.takeWhile_append_dropWhile (p := fun b => cs.contains b) (l := l.reverse)
  have h2 : l = (l.reverse.dropWhile (fun b => cs.contains b)).reverse ++ (l.reverse.takeWhile (fun b => cs.contains b)).reverse := by
    rw [← List.reverse_append, h, List.reverse_reverse]
  have h3 : l.drop (l.reverse.dropWhile (fun b => cs.contains b)).reverse.length = (l.reverse.takeWhile (fun b => cs.contains b)).reverse := by
    conv => lhs; rw [h2]
    simp
  rw [h3]; exact h2.symm

theorem trimRight_len (l cs : List UInt8) : (trimRightS l cs).length ≤ l.length := by
  have := congrArg List.length (trimRight_prefix l cs)
  simp only [List.length_append] at this
  omega

/-- The two ways of parting tell the same. -/
theorem okAt_same (l : List UInt8) : okAt (trimRightS l lets) (l.drop (trimRightS l lets).length) = okAt (headD l) (tailD l) := by
  rw [Bool.eq_iff_iff]
  constructor
  · intro h
    have h' := h
    unfold okAt at h'
    simp only [Bool.and_eq_true, decide_eq_true_eq] at h'
    obtain ⟨e1, e2⟩ := parted_head (trimRight_prefix l lets) h'.1.1 h'.1.2
    rw [e1, e2]; exact h
  · intro h
    have h' := h
    unfold okAt at h'
    simp only [Bool.and_eq_true, decide_eq_true_eq] at h'
    have e1 := parted_tail (head_tail l) h'.1.1 h'.1.2
    have e2 : l.drop (headD l).length = tailD l := by
      have h0 : (headD l ++ tailD l).drop (headD l).length = tailD l := by simp
      rwa [head_tail l] at h0
    rw [e1, e2]; exact h
theorem okAt_value {l : List UInt8} (h : okAt (trimRightS l lets) (l.drop (trimRightS l lets).length) = true) : trimRightS l lets = headD l ∧ l.drop (trimRightS l lets).length = tailD l := by
  unfold okAt at h
  simp only [Bool.and_eq_true, decide_eq_true_eq] at h
  obtain ⟨e1, e2⟩ := parted_head (trimRight_prefix l lets) h.1.1 h.1.2
  exact ⟨e1.symm, e2.symm⟩
end Go.Proofs.YteamacekhfncnaaDoor
