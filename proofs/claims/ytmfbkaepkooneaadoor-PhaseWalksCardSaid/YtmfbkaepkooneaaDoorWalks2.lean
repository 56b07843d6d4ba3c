/-
  PhaseWalks: its walk: true for every list of events and has. Condition: the words' table as its text lays it.
-/
import Derived.Test.YtmfbkaepkooneaaDoorEnds
namespace Go.Proofs.YtmfbkaepkooneaaDoor
open Go.RowKit Go.Maps

/-- From where to where a step leads, and on what. -/
def Step1 (h0 h1 : Bool) (p v : Int) : Prop :=
  (p = 1 ∧ v = 2) ∨ (p = 1 ∧ v = 3 ∧ h0 = false) ∨ (p = 2 ∧ v = 3) ∨ (p = 3 ∧ v = 4) ∨ (p = 4 ∧ v = 5 ∧ h1 = true) ∨ (p = 4 ∧ v = 7) ∨ (p = 4 ∧ v = 8) ∨ (p = 4 ∧ v = 10) ∨ (p = 5 ∧ v = 6) ∨ (p = 6 ∧ v = 7) ∨ (p = 6 ∧ v = 10) ∨ (p = 2 ∧ v = 8) ∨ (p = 6 ∧ v = 8) ∨
  (p = 4 ∧ v = 1) ∨ (p = 1 ∧ v = 9) ∨ (p = 2 ∧ v = 9) ∨ (p = 3 ∧ v = 9) ∨ (p = 4 ∧ v = 9) ∨ (p = 5 ∧ v = 9) ∨ (p = 6 ∧ v = 9)

theorem step_of_nx {h0 h1 h2 h3 : Bool} {p q v : Int} (h : nx h0 h1 h2 h3 p q = some v) : Step1 h0 h1 p v := by
  rw [nx_eq] at h
  refine some_ite (p := fun v => Step1 h0 h1 p v) h (fun c => ?_) fun h => ?_
  · unfold Step1; omega
  refine some_ite (p := fun v => Step1 h0 h1 p v) h (fun c => ?_) fun h => ?_
  · cases h0 <;> simp [Step1, c.1]
  refine some_ite (p := fun v => Step1 h0 h1 p v) h (fun c => ?_) fun h => ?_
  · simp [Step1, c.1]
  refine some_ite (p := fun v => Step1 h0 h1 p v) h (fun c => ?_) fun h => ?_
  · simp [Step1, c.1]
  refine some_ite (p := fun v => Step1 h0 h1 p v) h (fun c => ?_) fun h => ?_
  · cases h1 <;> simp [Step1, c.1]
  refine some_ite (p := fun v => Step1 h0 h1 p v) h (fun c => ?_) fun h => ?_
  · simp [Step1, c.1]
  refine some_ite (p := fun v => Step1 h0 h1 p v) h (fun c => ?_) fun h => ?_
  · cases h1 <;> simp [Step1, c.1]
  refine some_ite (p := fun v => Step1 h0 h1 p v) h (fun c => ?_) fun h => ?_
  · simp [Step1, c.1]
  refine some_ite (p := fun v => Step1 h0 h1 p v) h (fun c => ?_) fun h => ?_
  · cases h2 <;> simp [Step1, c.1]
  refine some_ite (p := fun v => Step1 h0 h1 p v) h (fun c => ?_) fun h => ?_
  · simp [Step1, c.1]
  refine some_ite (p := fun v => Step1 h0 h1 p v) h (fun c => ?_) fun h => ?_
  · simp [Step1, c.1]
  refine some_ite (p := fun v => Step1 h0 h1 p v) h (fun c => ?_) fun h => ?_
  · cases h3 <;> simp [Step1, c.1]
  cases h

theorem step_facts {h0 h1 : Bool} {p v : Int} (h : Step1 h0 h1 p v) : overB p = false ∧ (wdb v).toList.isEmpty = false ∧ ¬ (wdb v).toList = [] ∧ ((wdb v).toList == (wdb p).toList) = false := by
  rcases h with ⟨rfl, rfl⟩ | ⟨rfl, rfl, _⟩ | ⟨rfl, rfl⟩ | ⟨rfl, rfl⟩ | ⟨rfl, rfl, _⟩ | ⟨rfl, rfl⟩ | ⟨rfl, rfl⟩ | ⟨rfl, rfl⟩ | ⟨rfl, rfl⟩ | ⟨rfl, rfl⟩ | ⟨rfl, rfl⟩ | ⟨rfl, rfl⟩ | ⟨rfl, rfl⟩ | ⟨rfl, rfl⟩ | ⟨rfl, rfl⟩ | ⟨rfl, rfl⟩ | ⟨rfl, rfl⟩ | ⟨rfl, rfl⟩ | ⟨rfl, rfl⟩ | ⟨rfl, rfl⟩ <;> exact ⟨by decide, by decide +kernel, by decide +kernel, by decide +kernel⟩

theorem nx_cancel (h0 h1 h2 h3 : Bool) (p : Int) (a : 1 ≤ p) (b : p ≤ 6) : nxV h0 h1 h2 h3 p 10 = 9 ∧ nxE h0 h1 h2 h3 p 10 = 0 := by
  have : nx h0 h1 h2 h3 p 10 = some 9 := by rw [nx_eq, if_pos ⟨a, by omega, rfl⟩]
  simp [nxV, nxE, this]
theorem nx_cancel_over (h0 h1 h2 h3 : Bool) (p : Int) (a : 7 ≤ p) : nxV h0 h1 h2 h3 p 10 = 0 ∧ nxE h0 h1 h2 h3 p 10 = 220 := by
  have : nx h0 h1 h2 h3 p 10 = none := by
    rw [nx_eq, if_neg (by omega)]
    simp
  simp [nxV, nxE, this]

/-- What a round finds: the has' cells; what stood. -/
structure Has (h0 h1 h2 h3 : Bool) (w wr : World) : Prop where
  below : Below w.heap.size w wr
  c0 : wr.cell? ⟨w.heap.size, 0, none⟩ = some (.bool h0)
  c1 : wr.cell? ⟨w.heap.size, 1, none⟩ = some (.bool h1)
  c2 : wr.cell? ⟨w.heap.size, 2, none⟩ = some (.bool h2)
  c3 : wr.cell? ⟨w.heap.size, 3, none⟩ = some (.bool h3)
theorem Has.start (h0 h1 h2 h3 : Bool) (w : World) : Has h0 h1 h2 h3 w (w.alloc (.cells #[.bool h0, .bool h1, .bool h2, .bool h3] 24)) := by
  obtain ⟨a, b, c, d⟩ := has_cells (Below.refl (w.alloc (.cells #[.bool h0, .bool h1, .bool h2, .bool h3] 24)).heap.size (w.alloc (.cells #[.bool h0, .bool h1, .bool h2, .bool h3] 24)))
  exact ⟨(Below.refl _ _).alloc (Nat.le_refl _) _, a, b, c, d⟩
theorem Has.later {h0 h1 h2 h3 : Bool} {w wr w' : World} (h : Has h0 h1 h2 h3 w wr) (hb : Below wr.heap.size wr w') : Has h0 h1 h2 h3 w w' := by
  obtain ⟨a, b, c, d, _⟩ := five_below hb ⟨h.c0, h.c1, h.c2, h.c3, h.c3⟩
  exact ⟨below_next h.below hb, a, b, c, d⟩

/-- The list of events, as its slice has it. -/
def Events (sl : Option Addr) (len : Nat) (w : World) : Prop := len = 0 ∨ ∃ b off, sl = some ⟨b, off, none⟩ ∧ b < w.heap.size ∧ ∀ k : Nat, k < len → ∃ x : Int, 0 ≤ x ∧ x ≤ 255 ∧ w.cell? ⟨b, off + k, none⟩ = some (.int .u8 x)

set_option maxRecDepth 100000 in
set_option maxHeartbeats 4000000 in
theorem walks_any (sl : Option Addr) (len cap : Nat) (h0 h1 h2 h3 : Bool) (w : World) (hlen : len ≤ 9223372036854775807) (hev : Events sl len w) (hw : Words w) :
    Calls Tryd.prog 3 #[.slice sl len cap, .agg #[.bool h0, .bool h1, .bool h2, .bool h3]] w fun e w' => e = .returned (.bool true) ∧ Below w.heap.size w w' := by
  have hz := hw.1
  have Hev := Lib.hid hev
  clear hev
  go_enter Tryd.func3, Tryd.ntmps3
  go_wp2_with fail
  go_loopw [5, 6] (fun sp si wr => ∃ (k : Nat) (P : Int), k ≤ len ∧ k ≤ 60 ∧ si = .int .i64 k ∧ sp = .int .u8 P ∧ 1 ≤ P ∧ P ≤ 10 ∧ Has h0 h1 h2 h3 w wr) (fun _ si _ => 60 - (intOf si).toNat)
  case atStart => exact ⟨0, 1, by omega, by omega, rfl, rfl, by omega, by omega, Has.start _ _ _ _ _⟩
  case round =>
    obtain ⟨k, P, hk, hk6, rfl, rfl, hP1, hP2, hok⟩ := hrel
    have hbelow := hok.below
    by_cases hlt : k < len ∧ k < 60
    · obtain ⟨hl1, hl2⟩ := hlt
      rcases Hev.out with hzero | ⟨b, off, rfl, hb, hcell⟩
      · omega
      obtain ⟨x, hx0, hx1, hcx⟩ := hcell k hl1
      have hcx' := (hbelow.cell (p := ⟨b, off + k, none⟩) hb).trans hcx
      have Hok := Lib.hid hok
      obtain ⟨_, c0, c1, c2, c3⟩ := hok
      clear hcell hcx hb
      have hwp := wf8 (p := P) (by omega) (by omega)
      have hwq : (Lit.int .u8 (x.tmod 13)).wf = true := by rw [Int.tmod_eq_emod_of_nonneg hx0]; exact wf8 (by omega) (by omega)
      have Hp := Lib.hid hwp
      have Hq := Lib.hid hwq
      clear hwp hwq
      have hl1' : (k : Int) < len := by omega
      have hl2' : (k : Int) < 60 := by omega
      have hnn : (0 : Int) ≤ (k : Int) := by omega
      go_wp2_with fail
      go_region_held3 (fun w' => w'.cell? ⟨w.heap.size, 0, none⟩ = some (.bool h0) ∧ w'.cell? ⟨w.heap.size, 1, none⟩ = some (.bool h1) ∧ w'.cell? ⟨w.heap.size, 2, none⟩ = some (.bool h2) ∧ w'.cell? ⟨w.heap.size, 3, none⟩ = some (.bool h3) ∧ w'.cell? ⟨b, off + k, none⟩ = some (.int .u8 x)) (first | assumption | go_keep)
        (first | (go_at_call 6; refine (next_any P (x.tmod 13) h0 h1 h2 h3 _ Hp.out Hq.out).mono ?_; rintro e w' ⟨rfl, hb⟩; have hkeep := five_below hb (by assumption)))
      have HW := Lib.hid (Hok.out.later (below_of_drew hb))
      have hW1 := hw.below HW.out.below hz
      have HW1 := Lib.hid hW1
      clear hb hkeep c0 c1 c2 c3 hcx' hbelow hW1
      generalize x.tmod 13 = q at *
      cases hN : nx h0 h1 h2 h3 P q with
      | none =>
        have hE : nxE h0 h1 h2 h3 P q = 220 := by simp [nxE, hN]
        have hV : nxV h0 h1 h2 h3 P q = 0 := by simp [nxV, hN]
        clear hN
        go_wp2
        go_roundw
        case rel => exact ⟨k + 1, P, by omega, by omega, by go_num, rfl, hP1, hP2, HW.out⟩
        case measure => simp [intOf]; omega
      | some v =>
        have hE : nxE h0 h1 h2 h3 P q = 0 := by simp [nxE, hN]
        have hV : nxV h0 h1 h2 h3 P q = v := by simp [nxV, hN]
        have hS := step_of_nx hN
        clear hN
        have hSB : 1 ≤ v ∧ v ≤ 10 := by unfold Step1 at hS; omega
        obtain ⟨f1, f2, f2', f3⟩ := step_facts hS
        have Hv := Lib.hid hV
        clear hP1 hP2
        generalize nxV h0 h1 h2 h3 P q = v' at *
        obtain rfl := Hv.out
        clear Hv hV
        rcases hS with ⟨rfl, rfl⟩ | ⟨rfl, rfl, rfl⟩ | ⟨rfl, rfl⟩ | ⟨rfl, rfl⟩ | ⟨rfl, rfl, rfl⟩ | ⟨rfl, rfl⟩ | ⟨rfl, rfl⟩ | ⟨rfl, rfl⟩ | ⟨rfl, rfl⟩ | ⟨rfl, rfl⟩ | ⟨rfl, rfl⟩ | ⟨rfl, rfl⟩ | ⟨rfl, rfl⟩ | ⟨rfl, rfl⟩ | ⟨rfl, rfl⟩ | ⟨rfl, rfl⟩ | ⟨rfl, rfl⟩ | ⟨rfl, rfl⟩ | ⟨rfl, rfl⟩ | ⟨rfl, rfl⟩
        all_goals
          go_wp2_with (first | (go_at_call 7; refine (over_any _ _).mono ?_; rintro e w'' ⟨rfl, rfl⟩) | (go_at_call 8; refine (word_any _ _ (by omega) (by omega) HW1.out).mono ?_; rintro e w'' ⟨rfl, rfl⟩))
          go_roundw
          case rel => exact ⟨k + 1, _, by omega, by omega, by go_num, rfl, by omega, by omega, HW.out⟩
          case measure => simp [intOf]; omega
    · have hwp := wf8 (p := P) (by omega) (by omega)
      have Hp := Lib.hid hwp
      have hW1 := hw.below hbelow hz
      have HW1 := Lib.hid hW1
      obtain ⟨_, c0, c1, c2, c3⟩ := hok
      have hcs : (¬ k < len) ∨ (k < len ∧ k = 60) := by omega
      have hov : (P ≤ 6 ∧ overB P = true → False) ∧ True := ⟨fun h => by simp [overB] at h; omega, trivial⟩
      clear hwp hW1 hov
      have hPc : (nxV h0 h1 h2 h3 P 10 = 9 ∧ nxE h0 h1 h2 h3 P 10 = 0 ∧ overB P = false) ∨ (nxV h0 h1 h2 h3 P 10 = 0 ∧ nxE h0 h1 h2 h3 P 10 = 220 ∧ overB P = true) := by
        by_cases hp6 : P ≤ 6
        · obtain ⟨a, b⟩ := nx_cancel h0 h1 h2 h3 P hP1 hp6
          exact .inl ⟨a, b, by simp [overB]; omega⟩
        · obtain ⟨a, b⟩ := nx_cancel_over h0 h1 h2 h3 P (by omega)
          exact .inr ⟨a, b, by simp [overB]; omega⟩
      rcases hPc with ⟨e1, e2, e3⟩ | ⟨e1, e2, e3⟩ <;> rcases hcs with hcs | ⟨hcs, rfl⟩
      all_goals
        go_wp2_with fail
        refine (next_any P 10 h0 h1 h2 h3 _ Hp.out (by decide)).mono ?_
        rintro e w1 ⟨rfl, hb1⟩
        have hw2 := below_next hbelow hb1
        have hW2 := hw.below hw2 hz
        clear hb1
        go_wp2_with fail
        refine (over_any _ _).mono ?_
        rintro e w' ⟨rfl, rfl⟩
        go_wp2_with fail
        refine (head_any _ hW2).mono ?_
        rintro e w4 ⟨rfl, hb4⟩
        have hw4 := below_next hw2 hb4
        go_wp2
        go_ret
        exact ⟨rfl, hw4⟩
end Go.Proofs.YtmfbkaepkooneaaDoor
