/-
  PhaseEnds: its walk: true for every phase and has. Condition: the words' table as its text lays it.
-/
import Derived.Test.YtmfbkaepkooneaaDoorTells
import Derived.Deep.RegionHeld3
namespace Go.Proofs.YtmfbkaepkooneaaDoor
open Go.RowKit Go.Maps

theorem some_ite {α : Type} {c : Prop} [Decidable c] {a : α} {b : Option α} {v : α} {p : α → Prop} (h : (if c then some a else b) = some v) (ha : c → p a) (hb : b = some v → p v) : p v := by
  by_cases hc : c
  · rw [if_pos hc] at h; cases h; exact ha hc
  · rw [if_neg hc] at h; exact hb h

theorem nx_bd {h0 h1 h2 h3 : Bool} {p q v : Int} (h : nx h0 h1 h2 h3 p q = some v) : 1 ≤ v ∧ v ≤ 10 := by
  rw [nx_eq] at h
  refine some_ite (p := fun v => 1 ≤ v ∧ v ≤ 10) h (fun _ => by decide) fun h => ?_
  refine some_ite (p := fun v => 1 ≤ v ∧ v ≤ 10) h (fun _ => by cases h0 <;> decide) fun h => ?_
  refine some_ite (p := fun v => 1 ≤ v ∧ v ≤ 10) h (fun _ => by decide) fun h => ?_
  refine some_ite (p := fun v => 1 ≤ v ∧ v ≤ 10) h (fun _ => by decide) fun h => ?_
  refine some_ite (p := fun v => 1 ≤ v ∧ v ≤ 10) h (fun _ => by cases h1 <;> decide) fun h => ?_
  refine some_ite (p := fun v => 1 ≤ v ∧ v ≤ 10) h (fun _ => by decide) fun h => ?_
  refine some_ite (p := fun v => 1 ≤ v ∧ v ≤ 10) h (fun _ => by cases h1 <;> decide) fun h => ?_
  refine some_ite (p := fun v => 1 ≤ v ∧ v ≤ 10) h (fun _ => by decide) fun h => ?_
  refine some_ite (p := fun v => 1 ≤ v ∧ v ≤ 10) h (fun _ => by cases h2 <;> decide) fun h => ?_
  refine some_ite (p := fun v => 1 ≤ v ∧ v ≤ 10) h (fun _ => by decide) fun h => ?_
  refine some_ite (p := fun v => 1 ≤ v ∧ v ≤ 10) h (fun _ => by decide) fun h => ?_
  refine some_ite (p := fun v => 1 ≤ v ∧ v ≤ 10) h (fun _ => by cases h3 <;> decide) fun h => ?_
  cases h

def wayL : List Int := [1, 2, 3, 4, 7, 8]
/-- The phase behind k things that happen. -/
def walkP (h0 h1 h2 h3 : Bool) (p : Int) : Nat → Int
  | 0 => p
  | k + 1 => (nx h0 h1 h2 h3 (walkP h0 h1 h2 h3 p k) (wayL.getD k 0)).getD (walkP h0 h1 h2 h3 p k)

theorem walkP_bd (h0 h1 h2 h3 : Bool) (p : Int) (a : 1 ≤ p) (b : p ≤ 10) : ∀ k, 1 ≤ walkP h0 h1 h2 h3 p k ∧ walkP h0 h1 h2 h3 p k ≤ 10
  | 0 => ⟨a, b⟩
  | k + 1 => by
    unfold walkP
    cases h : nx h0 h1 h2 h3 (walkP h0 h1 h2 h3 p k) (wayL.getD k 0) with
    | none => exact walkP_bd h0 h1 h2 h3 p a b k
    | some v => exact nx_bd h

theorem walkP_over (h0 h1 h2 h3 : Bool) (p : Int) (a : 1 ≤ p) (b : p ≤ 10) : overB (walkP h0 h1 h2 h3 p 6) = true := by
  have : p = 1 ∨ p = 2 ∨ p = 3 ∨ p = 4 ∨ p = 5 ∨ p = 6 ∨ p = 7 ∨ p = 8 ∨ p = 9 ∨ p = 10 := by omega
  rcases this with rfl | rfl | rfl | rfl | rfl | rfl | rfl | rfl | rfl | rfl <;> (revert h0 h1 h2 h3; decide)

theorem nx_cancel_none (h0 h1 h2 h3 : Bool) (p : Int) (h : p < 1 ∨ 10 < p) : nxV h0 h1 h2 h3 p 10 = 0 ∧ nxE h0 h1 h2 h3 p 10 = 220 := by
  have : nx h0 h1 h2 h3 p 10 = none := by
    rw [nx_eq, if_neg (by omega)]
    simp
  simp [nxV, nxE, this]

theorem wdb_out (p : Int) (h0 : 0 ≤ p) (h : p < 1 ∨ 10 < p) : wdb p = ⟨#[]⟩ := by
  unfold wdb
  rcases h with h | h
  · obtain rfl : p = 0 := by omega
    rfl
  · rw [wd_high (by omega)]

set_option maxHeartbeats 1000000 in
theorem ends_out (p : Int) (h0 h1 h2 h3 : Bool) (w : World) (wp : (Lit.int .u8 p).wf = true) (ho : p < 1 ∨ 10 < p) (hw : Words w) :
    Calls Tryd.prog 4 #[.int .u8 p, .agg #[.bool h0, .bool h1, .bool h2, .bool h3]] w fun e w' => e = .returned (.bool true) ∧ Below w.heap.size w w' := by
  have hz := hw.1
  obtain ⟨b0, b1⟩ := bd8 wp
  obtain ⟨nv, ne⟩ := nx_cancel_none h0 h1 h2 h3 p ho
  have hwo := wdb_out p b0 ho
  rcases ho with ho | ho
  all_goals
    go_enter Tryd.func4, Tryd.ntmps4
    go_wp2_with fail
    refine (next_any p 10 h0 h1 h2 h3 _ wp (by decide)).mono ?_
    rintro e w1 ⟨rfl, hb1⟩
    have hw1 := below_has hb1
    have hW1 := hw.below hw1 hz
    clear hb1
    go_wp2_with fail
    refine (word_any _ _ (by omega) (by omega) hW1).mono ?_
    rintro e w' ⟨rfl, rfl⟩
    go_wp2_with fail
    refine (head_any _ hW1).mono ?_
    rintro e w4 ⟨rfl, hb4⟩
    have hw4 := below_next hw1 hb4
    go_wp2
    go_ret
    exact ⟨rfl, hw4⟩

theorem way_at {k : Nat} (h : k < 6) : [Value.int .u8 1, .int .u8 2, .int .u8 3, .int .u8 4, .int .u8 7, .int .u8 8][k]? = some (.int .u8 (wayL.getD k 0)) := by
  have : k = 0 ∨ k = 1 ∨ k = 2 ∨ k = 3 ∨ k = 4 ∨ k = 5 := by omega
  rcases this with rfl | rfl | rfl | rfl | rfl | rfl <;> rfl
theorem way_wf {k : Nat} : (Lit.int .u8 (wayL.getD k 0)).wf = true := by
  by_cases h : k < 6
  · have : k = 0 ∨ k = 1 ∨ k = 2 ∨ k = 3 ∨ k = 4 ∨ k = 5 := by omega
    rcases this with rfl | rfl | rfl | rfl | rfl | rfl <;> decide
  · have : wayL.getD k 0 = 0 := by simp [wayL, List.getD, List.getElem?_eq_none (show [1, 2, 3, 4, 7, (8 : Int)].length ≤ k by simp; omega)]
    rw [this]; decide

/-- The has' cells at B, and a byte at another place. -/
theorem five_below {B C k : Nat} {h0 h1 h2 h3 : Bool} {x : Value} {w w' : World} (hb : Below w.heap.size w w') (h : w.cell? ⟨B, 0, none⟩ = some (.bool h0) ∧ w.cell? ⟨B, 1, none⟩ = some (.bool h1) ∧ w.cell? ⟨B, 2, none⟩ = some (.bool h2) ∧ w.cell? ⟨B, 3, none⟩ = some (.bool h3) ∧ w.cell? ⟨C, k, none⟩ = some x) :
    w'.cell? ⟨B, 0, none⟩ = some (.bool h0) ∧ w'.cell? ⟨B, 1, none⟩ = some (.bool h1) ∧ w'.cell? ⟨B, 2, none⟩ = some (.bool h2) ∧ w'.cell? ⟨B, 3, none⟩ = some (.bool h3) ∧ w'.cell? ⟨C, k, none⟩ = some x := by
  obtain ⟨a0, a1, a2, a3, a4⟩ := h
  have hB := World.block_lt_of_cell? w _ a0
  have hC := World.block_lt_of_cell? w _ a4
  have e := fun j => hb.cell (p := ⟨B, j, none⟩) hB
  exact ⟨(e 0).trans a0, (e 1).trans a1, (e 2).trans a2, (e 3).trans a3, (hb.cell hC).trans a4⟩

theorem below_of_drew {w w' : World} (h : Below w.drew.heap.size w.drew w') : Below w.heap.size w w' := ⟨h.os, h.tape, h.output, h.size, h.block⟩
theorem u8_eq {a b : Int} (h : a = b) : Value.int .u8 a = .int .u8 b := by rw [h]

/-- What a round finds. -/
structure Way (h0 h1 h2 h3 : Bool) (w wr : World) : Prop where
  below : Below w.heap.size w wr
  c0 : wr.cell? ⟨w.heap.size, 0, none⟩ = some (.bool h0)
  c1 : wr.cell? ⟨w.heap.size, 1, none⟩ = some (.bool h1)
  c2 : wr.cell? ⟨w.heap.size, 2, none⟩ = some (.bool h2)
  c3 : wr.cell? ⟨w.heap.size, 3, none⟩ = some (.bool h3)
  cw : ∀ k : Nat, k < 6 → wr.cell? ⟨w.heap.size + 1, k, none⟩ = some (.int .u8 (wayL.getD k 0))

theorem Way.start (h0 h1 h2 h3 : Bool) (w : World) : Way h0 h1 h2 h3 w ((w.alloc (.cells #[.bool h0, .bool h1, .bool h2, .bool h3] 24)).alloc (.cells #[.int .u8 1, .int .u8 2, .int .u8 3, .int .u8 4, .int .u8 7, .int .u8 8] 5)) := by
  refine ⟨((Below.refl _ _).alloc (Nat.le_refl _) _).alloc (by simp) _, ?_, ?_, ?_, ?_, fun k hk => ?_⟩
  any_goals (rw [World.cell?_alloc_lt _ _ _ (by simp), World.cell?_alloc_at _ _ _ _ rfl]; rfl)
  rw [World.cell?_alloc_at _ _ _ _ (by simp)]
  have := way_at hk
  simpa using this
theorem Way.later {h0 h1 h2 h3 : Bool} {w wr w' : World} (h : Way h0 h1 h2 h3 w wr) (hb : Below wr.heap.size wr w') : Way h0 h1 h2 h3 w w' := by
  have f := fun k hk => five_below hb ⟨h.c0, h.c1, h.c2, h.c3, h.cw k hk⟩
  exact ⟨below_next h.below hb, (f 0 (by omega)).1, (f 0 (by omega)).2.1, (f 0 (by omega)).2.2.1, (f 0 (by omega)).2.2.2.1, fun k hk => (f k hk).2.2.2.2⟩

set_option maxHeartbeats 1000000 in
theorem ends_in (p : Int) (h0 h1 h2 h3 : Bool) (w : World) (hp1 : 1 ≤ p) (hp2 : p ≤ 10) (hw : Words w) :
    Calls Tryd.prog 4 #[.int .u8 p, .agg #[.bool h0, .bool h1, .bool h2, .bool h3]] w fun e w' => e = .returned (.bool true) ∧ Below w.heap.size w w' := by
  have hz := hw.1
  go_enter Tryd.func4, Tryd.ntmps4
  go_wp2_with fail
  go_loopw [0, 8] (fun sp si wr => ∃ k : Nat, k ≤ 6 ∧ si = .int .i64 k ∧ sp = .int .u8 (walkP h0 h1 h2 h3 p k) ∧ Way h0 h1 h2 h3 w wr) (fun _ si _ => 6 - (intOf si).toNat)
  case atStart => exact ⟨0, by omega, rfl, rfl, Way.start _ _ _ _ _⟩
  case round =>
    obtain ⟨k, hk, rfl, rfl, hok⟩ := hrel
    have hbd := walkP_bd h0 h1 h2 h3 p hp1 hp2 k
    have hbelow := hok.below
    by_cases hlt : k < 6
    · have Hok := Lib.hid hok
      obtain ⟨_, c0, c1, c2, c3, cw⟩ := hok
      have hcw := cw k hlt
      have hwk := way_wf (k := k)
      have hP : walkP h0 h1 h2 h3 p (k + 1) = (nx h0 h1 h2 h3 (walkP h0 h1 h2 h3 p k) (wayL.getD k 0)).getD (walkP h0 h1 h2 h3 p k) := rfl
      have HP := Lib.hid hP
      clear hP cw
      generalize walkP h0 h1 h2 h3 p k = P at *
      generalize wayL.getD k 0 = q at *
      have hwp := wf8 (p := P) (by omega) (by omega)
      have Hp := Lib.hid hwp
      have Hq := Lib.hid hwk
      clear hwp hwk
      have hlt' : (k : Int) < 6 := by omega
      have hnn : (0 : Int) ≤ (k : Int) := by omega
      go_wp2_with fail
      go_region_held3 (fun w' => w'.cell? ⟨w.heap.size, 0, none⟩ = some (.bool h0) ∧ w'.cell? ⟨w.heap.size, 1, none⟩ = some (.bool h1) ∧ w'.cell? ⟨w.heap.size, 2, none⟩ = some (.bool h2) ∧ w'.cell? ⟨w.heap.size, 3, none⟩ = some (.bool h3) ∧ w'.cell? ⟨w.heap.size + 1, k, none⟩ = some (.int .u8 q)) (first | assumption | go_keep)
        (first | (go_at_call 6; refine (next_any P q h0 h1 h2 h3 _ Hp.out Hq.out).mono ?_; rintro e w' ⟨rfl, hb⟩; have hkeep := five_below hb (by assumption)))
      have HW := Lib.hid (Hok.out.later (below_of_drew hb))
      clear hb hkeep c0 c1 c2 c3 hcw hbelow
      try clear hHeld
      cases hN : nx h0 h1 h2 h3 P q with
      | none =>
        have hE : nxE h0 h1 h2 h3 P q = 220 := by simp [nxE, hN]
        have HN := Lib.hid hN
        clear hN
        go_wp2
        go_roundw
        case rel => exact ⟨k + 1, by omega, by go_num, u8_eq (by rw [HP.out, HN.out]; rfl), HW.out⟩
        case measure => simp [intOf]; omega
      | some v =>
        have hE : nxE h0 h1 h2 h3 P q = 0 := by simp [nxE, hN]
        have hV : nxV h0 h1 h2 h3 P q = v := by simp [nxV, hN]
        have HN := Lib.hid hN
        clear hN
        go_wp2
        go_roundw
        case rel => exact ⟨k + 1, by omega, by go_num, u8_eq (by rw [HP.out, HN.out]; exact hV), HW.out⟩
        case measure => simp [intOf]; omega
    · obtain rfl : k = 6 := by omega
      have hov := walkP_over h0 h1 h2 h3 p hp1 hp2
      have hW1 := hw.below hbelow hz
      clear hok
      generalize walkP h0 h1 h2 h3 p 6 = P at *
      go_wp2_with fail
      refine (over_any _ _).mono ?_
      rintro e w' ⟨rfl, rfl⟩
      go_wp2_with fail
      refine (head_any _ hW1).mono ?_
      rintro e w4 ⟨rfl, hb4⟩
      have hw4 := below_next hbelow hb4
      go_wp2
      go_ret
      exact ⟨rfl, hw4⟩

theorem ends_any (p : Int) (h0 h1 h2 h3 : Bool) (w : World) (wp : (Lit.int .u8 p).wf = true) (hw : Words w) :
    Calls Tryd.prog 4 #[.int .u8 p, .agg #[.bool h0, .bool h1, .bool h2, .bool h3]] w fun e w' => e = .returned (.bool true) ∧ Below w.heap.size w w' := by
  by_cases h : p < 1 ∨ 10 < p
  · exact ends_out p h0 h1 h2 h3 w wp h hw
  · exact ends_in p h0 h1 h2 h3 w (by omega) (by omega) hw
end Go.Proofs.YtmfbkaepkooneaaDoor
