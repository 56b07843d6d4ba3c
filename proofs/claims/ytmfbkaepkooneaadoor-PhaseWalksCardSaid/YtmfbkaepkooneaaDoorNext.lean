/-
  phase.Next: for every phase, event and has it answers as its table says. Nothing is asked but that the first two are bytes.
-/
import Derived.Test.YtmfbkaepkooneaaDoorReg
import Derived.Lib.Hide
namespace Go.Proofs.YtmfbkaepkooneaaDoor
open Go.RowKit Go.Maps

/-- What the text's own rows say. -/
def nx0 (h0 h1 h2 h3 : Bool) (p q : Int) : Option Int := ((rowsL h0 h1 h2 h3).find? fun r => decide (r.2.1 = p ∧ r.2.2.1 = q)).map (·.2.2.2)
/-- .. and behind k - 1 rounds of the loop. -/
def nxk (h0 h1 h2 h3 : Bool) (k : Nat) (p q : Int) : Option Int := if 1 ≤ p ∧ p < k ∧ q = 10 then some 9 else nx0 h0 h1 h2 h3 p q

/-- The map holds what T says. -/
def Content (D : DataW Unit) (w : World) (T : Int → Int → Option Int) : Prop :=
  ∀ p q, (Lit.int .u8 p).wf = true → (Lit.int .u8 q).wf = true → match T p q with
    | some c => At D w p q c
    | none => D.atKey (key p q) .nil = .nil

/-- The map at block b, from block base on, holds what T says, and below base nothing has turned. -/
def Tab (base : Nat) (b : Nat) (m : Nat) (w0 : World) (T : Int → Int → Option Int) (w : World) : Prop :=
  ∃ D n, base ≤ b ∧ w.ownsMap Tryd.prog 42 rf b n D ∧ n ≤ m ∧ IsMap D ∧ Content D w T ∧ Below base w0 w

theorem Tab.of_made {h0 h1 h2 h3 : Bool} {pl : List (Nat × Value)} {w0 w : World} {g : Nat → Value} {L : Nat → Bool} (hl : ∀ i, i < 57 → L i = true) (h : Made (rowsL h0 h1 h2 h3) pl w0 g L w) :
    ∃ b, g 56 = .map (some b) ∧ Tab w0.heap.size b 11 w0 (nxk h0 h1 h2 h3 1) w := by
  obtain ⟨b, D, n, e1, e2, e3, e4, e5, e6, e7⟩ := h.own (hl 0 (by omega))
  refine ⟨b, ?_, D, n, e2, e3, Nat.le_trans e4 List.countP_le_length, e5, fun p q hp hq => ?_, h.below⟩
  · rw [(h.res (hl 56 (by omega))).2, (h.mv (hl 55 (by omega))).2, e1]
  · have hk : nxk h0 h1 h2 h3 1 p q = nx0 h0 h1 h2 h3 p q := by unfold nxk; rw [if_neg (by simp; omega)]
    rw [hk]
    unfold nx0
    cases hf : (rowsL h0 h1 h2 h3).find? fun r => decide (r.2.1 = p ∧ r.2.2.1 = q) with
    | some r =>
      have h1 := List.mem_of_find?_eq_some hf
      have h2 := List.find?_some hf
      simp only [decide_eq_true_eq] at h2
      obtain ⟨rfl, rfl⟩ := h2
      exact e6 r h1 (hl _ (by have := (rows_bd h0 _ _ _ r h1).2.2.2.2; omega))
    | none =>
      simp only [Option.map_none]
      refine e7 _ fun r hm _ hkk => ?_
      have := List.find?_eq_none.1 hf r hm
      have b1 := rows_bd _ _ _ _ r hm
      have e := key_inj hp hq b1.1 b1.2.1 hkk
      exact this (by simpa using ⟨e.1.symm, e.2.symm⟩)

theorem key_isKey {p q : Int} (hp : (Lit.int .u8 p).wf = true) (hq : (Lit.int .u8 q).wf = true) : WideAt.IsKeyLit (key p q) := law42.key (key_ok hp hq)

/-- One round of the loop. -/
theorem Tab.round {h0 h1 h2 h3 : Bool} {base b m k : Nat} {w0 w : World} (h : Tab base b m w0 (nxk h0 h1 h2 h3 k) w) (hm : m ≤ 1000) (hk : 1 ≤ k) (hk' : k ≤ 6) {n : Nat} (hc : w.cell? ⟨n, 0, none⟩ = some (.int .u8 9)) :
    ∃ w', (Instr.mapUpdate 43 (.map (some b)) (pair k 10) (clo n)).run Tryd.prog w = .ok () w' ∧ Tab base b (m + 1) w0 (nxk h0 h1 h2 h3 (k + 1)) w' := by
  obtain ⟨D, n', e1, e2, e3, e4, e5, e6⟩ := h
  have wk : (Lit.int .u8 (k : Int)).wf = true := wf8 (by omega) (by omega)
  have w10 : (Lit.int .u8 10).wf = true := by decide
  have hko := key_ok wk w10
  obtain ⟨w', hrun, ho, hg⟩ := e2.update law42 Tryd.underlying43 (by unfold maxLen; omega) hko (rf_clo n)
  have hcell : ∀ a v, w.cell? a = some v → w'.cell? a = some v := by
    intro a v ha
    have hlt := World.block_lt_of_cell? w a ha
    rw [World.cell?_of_block (hg.block a.block hlt ?_)]; exact ha
    intro e
    obtain ⟨es, clock, hb, _⟩ := e2
    simp only [Option.some.injEq] at e
    rw [← e] at hb
    simp [World.cell?, hb] at ha
  refine ⟨w', hrun, _, n' + 1, e1, ho, by omega, e4.put _ _, fun p q hp hq => ?_, e6.grown hg ?_ (fun j hj => by cases hj; exact e1)⟩
  · by_cases e : p = k ∧ q = 10
    · obtain ⟨rfl, rfl⟩ := e
      have : nxk h0 h1 h2 h3 (k + 1) k 10 = some 9 := by unfold nxk; rw [if_pos ⟨by omega, by omega, rfl⟩]
      rw [this]
      exact ⟨n, atKey_put_same e4 (key_isKey wk w10) _ _, hcell _ _ hc⟩
    · have : nxk h0 h1 h2 h3 (k + 1) p q = nxk h0 h1 h2 h3 k p q := by
        unfold nxk
        by_cases hc : 1 ≤ p ∧ p < (k : Int) ∧ q = 10
        · rw [if_pos hc, if_pos ⟨hc.1, by omega, hc.2.2⟩]
        · rw [if_neg hc, if_neg]
          rintro ⟨a1, a2, a3⟩
          exact e ⟨by omega, a3⟩
      rw [this]
      have hne : key p q ≠ key k 10 := fun hkk => e (key_inj hp hq wk w10 hkk)
      have h5 := e5 p q hp hq
      cases hT : nxk h0 h1 h2 h3 k p q with
      | some c =>
        rw [hT] at h5
        obtain ⟨j, j1, j2⟩ := h5
        exact ⟨j, by rw [atKey_put_other hne]; exact j1, hcell _ _ j2⟩
      | none =>
        rw [hT] at h5
        show (D.put (key k 10) _).atKey (key p q) .nil = .nil
        rw [atKey_put_other hne]; exact h5
  · have := e2.lt; omega

theorem Tab.alloc {T : Int → Int → Option Int} {base b m : Nat} {w0 w : World} (h : Tab base b m w0 T w) (o : Obj) : Tab base b m w0 T (w.alloc o) := by
  obtain ⟨D, n', e1, e2, e3, e4, e5, e6⟩ := h
  refine ⟨D, n', e1, e2.alloc o, e3, e4, fun p q hp hq => ?_, e6.alloc (by have := e2.lt; omega) o⟩
  have h5 := e5 p q hp hq
  cases hT : T p q with
  | some c => rw [hT] at h5; exact At.kept h5 fun _ _ h => cell_alloc h
  | none => rw [hT] at h5; exact h5

theorem Tab.mono {T : Int → Int → Option Int} {base b m m' : Nat} {w0 w : World} (h : Tab base b m w0 T w) (hm : m ≤ m') : Tab base b m' w0 T w := by
  obtain ⟨D, n', e1, e2, e3, e4, e5, e6⟩ := h
  exact ⟨D, n', e1, e2, by omega, e4, e5, e6⟩

/-- What the table answers. -/
theorem Tab.look {T : Int → Int → Option Int} {base b m : Nat} {w0 w : World} (h : Tab base b m w0 T w) {p q : Int} (hp : (Lit.int .u8 p).wf = true) (hq : (Lit.int .u8 q).wf = true) :
    (T p q = none → (Instr.lookup 43 (.map (some b)) (pair p q) false).run Tryd.prog w = .ok .nilFunc w) ∧
    (∀ c, T p q = some c → ∃ n, (Instr.lookup 43 (.map (some b)) (pair p q) false).run Tryd.prog w = .ok (clo n) w ∧ w.cell? ⟨n, 0, none⟩ = some (.int .u8 c)) := by
  obtain ⟨D, n', e1, e2, e3, e4, e5, e6⟩ := h
  obtain ⟨v, ps, hrun, hv⟩ := e2.lookup law42 Tryd.underlying43 (zero38 w) rf_nil (key_ok hp hq)
  have h5 := e5 p q hp hq
  constructor
  · intro hT
    rw [hT] at h5
    have h5' : D.atKey (key p q) .nil = .nil := h5
    rw [h5'] at hv
    rw [rf_nil_inv hv] at hrun
    exact hrun
  · intro c hT
    rw [hT] at h5
    obtain ⟨n, n1, n2⟩ := h5
    rw [n1] at hv
    rw [rf_lit hv] at hrun
    exact ⟨n, hrun, n2⟩

/-- The world when the table is begun. -/
def begun (h0 h1 h2 h3 : Bool) (w : World) : World := (w.alloc (.cells #[.bool h0, .bool h1, .bool h2, .bool h3] 24)).alloc (.cells #[.func (.func 14) #[] #[]] 39)
theorem begun_size (h0 h1 h2 h3 : Bool) (w : World) : (begun h0 h1 h2 h3 w).heap.size = w.heap.size + 2 := by simp [begun]
theorem begun_to (h0 h1 h2 h3 : Bool) (w : World) : (begun h0 h1 h2 h3 w).cell? ⟨w.heap.size + 1, 0, none⟩ = some (.func (.func 14) #[] #[]) := by
  unfold begun
  rw [World.cell?_alloc_at _ _ _ _ (by simp)]; rfl
theorem begun_has (h0 h1 h2 h3 : Bool) (w : World) (j : Nat) : (begun h0 h1 h2 h3 w).cell? ⟨w.heap.size, j, none⟩ = (#[Value.bool h0, .bool h1, .bool h2, .bool h3])[j]? := by
  unfold begun
  rw [World.cell?_alloc_lt _ _ _ (by simp), World.cell?_alloc_at _ _ _ _ rfl]
theorem begun_below (h0 h1 h2 h3 : Bool) (w : World) : Below w.heap.size w (begun h0 h1 h2 h3 w) := ((Below.refl _ _).alloc (Nat.le_refl _) _).alloc (by simp) _
theorem begun_stand (h0 h1 h2 h3 : Bool) (w : World) : Stand w.heap.size h0 h1 h2 h3 (begun h0 h1 h2 h3 w) :=
  ⟨by rw [begun_size]; omega, begun_has _ _ _ _ _ 0, begun_has _ _ _ _ _ 1, begun_has _ _ _ _ _ 2, begun_has _ _ _ _ _ 3, begun_to _ _ _ _ _⟩

/-- What phase.Next answers. -/
def nx (h0 h1 h2 h3 : Bool) (p q : Int) : Option Int := nxk h0 h1 h2 h3 7 p q
def nxV (h0 h1 h2 h3 : Bool) (p q : Int) : Int := (nx h0 h1 h2 h3 p q).getD 0
def nxE (h0 h1 h2 h3 : Bool) (p q : Int) : Int := if (nx h0 h1 h2 h3 p q).isSome = true then 0 else 220

def Cut (h0 h1 h2 h3 : Bool) (w : World) (k : Nat) (b : Nat) (wx : World) : Prop := Tab (begun h0 h1 h2 h3 w).heap.size b (11 + k) (begun h0 h1 h2 h3 w) (nxk h0 h1 h2 h3 k) wx

theorem Cut.below {h0 h1 h2 h3 : Bool} {w wx : World} {k b : Nat} (h : Cut h0 h1 h2 h3 w k b wx) : Below w.heap.size w wx := by
  obtain ⟨D, n', e1, e2, e3, e4, e5, e6⟩ := h
  exact (begun_below _ _ _ _ _).trans (e6.mono (by rw [begun_size]; omega))
theorem Cut.to {h0 h1 h2 h3 : Bool} {w wx : World} {k b : Nat} (h : Cut h0 h1 h2 h3 w k b wx) : wx.cell? ⟨w.heap.size + 1, 0, none⟩ = some (.func (.func 14) #[] #[]) := by
  obtain ⟨D, n', e1, e2, e3, e4, e5, e6⟩ := h
  exact (e6.cell (by rw [begun_size]; show w.heap.size + 1 < _; omega)).trans (begun_to _ _ _ _ _)
theorem Cut.round {h0 h1 h2 h3 : Bool} {w wx : World} {k b : Nat} (h : Cut h0 h1 h2 h3 w k b wx) (hk : 1 ≤ k) (hk' : k ≤ 6) :
    ∃ w', (Instr.mapUpdate 43 (.map (some b)) (.agg #[.int .u8 k, .int .u8 10]) (clo wx.heap.size)).run Tryd.prog (wx.alloc (.cells #[.int .u8 9] 5)) = .ok () w' ∧ Cut h0 h1 h2 h3 w (k + 1) b w' :=
  Tab.round (Tab.alloc h _) (by omega) hk hk' (by rw [World.cell?_alloc_at _ _ _ _ rfl]; rfl)

theorem eq_nil_nil (w : World) : (binOp .eql 38 .nilFunc .nilFunc).run Tryd.prog w = .ok (.bool true) w := by kernel_rfl
theorem eq_fn_nil (n : Nat) (w : World) : (binOp .eql 38 (.func (.func 15) #[] #[.pointer (some ⟨n, 0, none⟩)]) .nilFunc).run Tryd.prog w = .ok (.bool false) w := by kernel_rfl

set_option maxRecDepth 100000 in
set_option maxHeartbeats 1000000 in
theorem next_any (p q : Int) (h0 h1 h2 h3 : Bool) (w : World) (wp : (Lit.int .u8 p).wf = true) (wq : (Lit.int .u8 q).wf = true) :
    Calls Tryd.prog 6 #[.int .u8 p, .int .u8 q, .agg #[.bool h0, .bool h1, .bool h2, .bool h3]] w fun e w' => e = .returned (.tuple #[.int .u8 (nxV h0 h1 h2 h3 p q), .int .i64 (nxE h0 h1 h2 h3 p q)]) ∧ Below w.heap.size w w' := by
  go_enter Tryd.func6, Tryd.ntmps6
  go_upto_region 3 with fail
  go_cut [10] from 14 to 58 (fun s10 wx => ∃ b, s10 = .map (some b) ∧ Cut h0 h1 h2 h3 w 1 b wx)
  case first =>
    rename_i J K' hJ hK
    have C := begun_stand h0 h1 h2 h3 w
    refine region_any (B := w.heap.size) (w0 := begun h0 h1 h2 h3 w) (p := p) (q := q) (h0 := h0) (h1 := h1) (h2 := h2) (h3 := h3) (by kernel_rfl) (by kernel_rfl) rfl (by kernel_rfl) ?_ (fun _ => undef) ?_
    · refine ⟨?_, ?_, ?_, ?_, ?_, ?_, ?_, ?_, ?_, ?_, ?_, ?_, ?_, ?_, ?_, ?_, ?_, ?_, ?_, ?_, ?_, ?_, ?_, ?_, ?_, ?_, ?_, ?_, ?_, ?_, ?_, ?_, ?_, ?_, ?_, ?_, ?_, ?_, ?_, ?_, ?_, ?_, ?_, ?_, ?_, ?_, ?_, ?_, ?_, ?_, ?_, ?_, ?_, ?_, ?_, ?_, ?_, trivial⟩
      · exact st_make rfl (by simp [pureL]) (fun _ _ => rfl)
      · exact st_pure 1 (pair 1 1) (by decide) (by simp [rowsL]) (by simp [pureL]) (fun _ => rfl) (fun _ _ => by kernel_rfl)
      · exact st_pure 2 (f16 (w.heap.size + 1)) (by decide) (by simp [rowsL]) (by simp [pureL]) (fun _ => rfl) (fun _ _ => by kernel_rfl)
      · exact st_pure 3 (.pointer (some ⟨w.heap.size, 0, none⟩)) (by decide) (by simp [rowsL]) (by simp [pureL]) (fun _ => rfl) (fun _ _ => by kernel_rfl)
      · exact st_load C 4 3 0 h0 (by decide) (by simp [rowsL]) (by simp [pureL]) (by simp [pureL]) ⟨⟨3, .data⟩, by simp, rfl, rfl⟩ rfl (fun _ => rfl) (fun _ => rfl) C.c0
      · exact st_call16 C (r := (5, 1, 1, if h0 = true then 2 else 3)) 2 4 h0 rfl (by simp [rowsL]) (by simp [pureL]) (by simp [pureL]) (by simp [pureL]) ⟨⟨2, .data⟩, by simp, rfl, rfl⟩ ⟨⟨4, .data⟩, by simp, rfl, rfl⟩ rfl (fun _ => rfl) (fun _ => rfl) (fun _ _ => rfl)
      · exact st_ins (r := (5, 1, 1, if h0 = true then 2 else 3)) 1 (by simp [rowsL]) (by simp [pureL]) (by simp [pureL]) ⟨⟨0, .data⟩, by simp, rfl, rfl⟩ ⟨⟨1, .data⟩, by simp, rfl, rfl⟩ ⟨⟨5, .data⟩, by simp, rfl, rfl⟩ rfl rfl (fun _ => rfl) (fun _ => rfl)
      · exact st_pure 7 (pair 2 2) (by decide) (by simp [rowsL]) (by simp [pureL]) (fun _ => rfl) (fun _ _ => by kernel_rfl)
      · exact st_to C 8 (by decide) (by simp [rowsL]) (by simp [pureL]) rfl (fun _ => rfl)
      · exact st_call14 (r := (9, 2, 2, 3)) 8 (by simp [rowsL]) (by simp [pureL]) (by simp [pureL]) ⟨⟨8, .data⟩, by simp, rfl, rfl⟩ rfl (fun _ => rfl) (fun _ _ => rfl)
      · exact st_ins (r := (9, 2, 2, 3)) 7 (by simp [rowsL]) (by simp [pureL]) (by simp [pureL]) ⟨⟨0, .data⟩, by simp, rfl, rfl⟩ ⟨⟨7, .data⟩, by simp, rfl, rfl⟩ ⟨⟨9, .data⟩, by simp, rfl, rfl⟩ rfl rfl (fun _ => rfl) (fun _ => rfl)
      · exact st_pure 11 (pair 3 3) (by decide) (by simp [rowsL]) (by simp [pureL]) (fun _ => rfl) (fun _ _ => by kernel_rfl)
      · exact st_to C 12 (by decide) (by simp [rowsL]) (by simp [pureL]) rfl (fun _ => rfl)
      · exact st_call14 (r := (13, 3, 3, 4)) 12 (by simp [rowsL]) (by simp [pureL]) (by simp [pureL]) ⟨⟨12, .data⟩, by simp, rfl, rfl⟩ rfl (fun _ => rfl) (fun _ _ => rfl)
      · exact st_ins (r := (13, 3, 3, 4)) 11 (by simp [rowsL]) (by simp [pureL]) (by simp [pureL]) ⟨⟨0, .data⟩, by simp, rfl, rfl⟩ ⟨⟨11, .data⟩, by simp, rfl, rfl⟩ ⟨⟨13, .data⟩, by simp, rfl, rfl⟩ rfl rfl (fun _ => rfl) (fun _ => rfl)
      · exact st_pure 15 (pair 4 4) (by decide) (by simp [rowsL]) (by simp [pureL]) (fun _ => rfl) (fun _ _ => by kernel_rfl)
      · exact st_pure 16 (f16 (w.heap.size + 1)) (by decide) (by simp [rowsL]) (by simp [pureL]) (fun _ => rfl) (fun _ _ => by kernel_rfl)
      · exact st_pure 17 (.pointer (some ⟨w.heap.size, 1, none⟩)) (by decide) (by simp [rowsL]) (by simp [pureL]) (fun _ => rfl) (fun _ _ => by kernel_rfl)
      · exact st_load C 18 17 1 h1 (by decide) (by simp [rowsL]) (by simp [pureL]) (by simp [pureL]) ⟨⟨17, .data⟩, by simp, rfl, rfl⟩ rfl (fun _ => rfl) (fun _ => rfl) C.c1
      · exact st_call16 C (r := (19, 4, 4, if h1 = true then 5 else 7)) 16 18 h1 rfl (by simp [rowsL]) (by simp [pureL]) (by simp [pureL]) (by simp [pureL]) ⟨⟨16, .data⟩, by simp, rfl, rfl⟩ ⟨⟨18, .data⟩, by simp, rfl, rfl⟩ rfl (fun _ => rfl) (fun _ => rfl) (fun _ _ => rfl)
      · exact st_ins (r := (19, 4, 4, if h1 = true then 5 else 7)) 15 (by simp [rowsL]) (by simp [pureL]) (by simp [pureL]) ⟨⟨0, .data⟩, by simp, rfl, rfl⟩ ⟨⟨15, .data⟩, by simp, rfl, rfl⟩ ⟨⟨19, .data⟩, by simp, rfl, rfl⟩ rfl rfl (fun _ => rfl) (fun _ => rfl)
      · exact st_pure 21 (pair 4 5) (by decide) (by simp [rowsL]) (by simp [pureL]) (fun _ => rfl) (fun _ _ => by kernel_rfl)
      · exact st_to C 22 (by decide) (by simp [rowsL]) (by simp [pureL]) rfl (fun _ => rfl)
      · exact st_call14 (r := (23, 4, 5, 8)) 22 (by simp [rowsL]) (by simp [pureL]) (by simp [pureL]) ⟨⟨22, .data⟩, by simp, rfl, rfl⟩ rfl (fun _ => rfl) (fun _ _ => rfl)
      · exact st_ins (r := (23, 4, 5, 8)) 21 (by simp [rowsL]) (by simp [pureL]) (by simp [pureL]) ⟨⟨0, .data⟩, by simp, rfl, rfl⟩ ⟨⟨21, .data⟩, by simp, rfl, rfl⟩ ⟨⟨23, .data⟩, by simp, rfl, rfl⟩ rfl rfl (fun _ => rfl) (fun _ => rfl)
      · exact st_pure 25 (pair 4 6) (by decide) (by simp [rowsL]) (by simp [pureL]) (fun _ => rfl) (fun _ _ => by kernel_rfl)
      · exact st_pure 26 (f16 (w.heap.size + 1)) (by decide) (by simp [rowsL]) (by simp [pureL]) (fun _ => rfl) (fun _ _ => by kernel_rfl)
      · exact st_pure 27 (.pointer (some ⟨w.heap.size, 1, none⟩)) (by decide) (by simp [rowsL]) (by simp [pureL]) (fun _ => rfl) (fun _ _ => by kernel_rfl)
      · exact st_load C 28 27 1 h1 (by decide) (by simp [rowsL]) (by simp [pureL]) (by simp [pureL]) ⟨⟨27, .data⟩, by simp, rfl, rfl⟩ rfl (fun _ => rfl) (fun _ => rfl) C.c1
      · exact st_call16 C (r := (29, 4, 6, if h1 = true then 5 else 10)) 26 28 h1 rfl (by simp [rowsL]) (by simp [pureL]) (by simp [pureL]) (by simp [pureL]) ⟨⟨26, .data⟩, by simp, rfl, rfl⟩ ⟨⟨28, .data⟩, by simp, rfl, rfl⟩ rfl (fun _ => rfl) (fun _ => rfl) (fun _ _ => rfl)
      · exact st_ins (r := (29, 4, 6, if h1 = true then 5 else 10)) 25 (by simp [rowsL]) (by simp [pureL]) (by simp [pureL]) ⟨⟨0, .data⟩, by simp, rfl, rfl⟩ ⟨⟨25, .data⟩, by simp, rfl, rfl⟩ ⟨⟨29, .data⟩, by simp, rfl, rfl⟩ rfl rfl (fun _ => rfl) (fun _ => rfl)
      · exact st_pure 31 (pair 5 7) (by decide) (by simp [rowsL]) (by simp [pureL]) (fun _ => rfl) (fun _ _ => by kernel_rfl)
      · exact st_to C 32 (by decide) (by simp [rowsL]) (by simp [pureL]) rfl (fun _ => rfl)
      · exact st_call14 (r := (33, 5, 7, 6)) 32 (by simp [rowsL]) (by simp [pureL]) (by simp [pureL]) ⟨⟨32, .data⟩, by simp, rfl, rfl⟩ rfl (fun _ => rfl) (fun _ _ => rfl)
      · exact st_ins (r := (33, 5, 7, 6)) 31 (by simp [rowsL]) (by simp [pureL]) (by simp [pureL]) ⟨⟨0, .data⟩, by simp, rfl, rfl⟩ ⟨⟨31, .data⟩, by simp, rfl, rfl⟩ ⟨⟨33, .data⟩, by simp, rfl, rfl⟩ rfl rfl (fun _ => rfl) (fun _ => rfl)
      · exact st_pure 35 (pair 6 8) (by decide) (by simp [rowsL]) (by simp [pureL]) (fun _ => rfl) (fun _ _ => by kernel_rfl)
      · exact st_pure 36 (f16 (w.heap.size + 1)) (by decide) (by simp [rowsL]) (by simp [pureL]) (fun _ => rfl) (fun _ _ => by kernel_rfl)
      · exact st_pure 37 (.pointer (some ⟨w.heap.size, 2, none⟩)) (by decide) (by simp [rowsL]) (by simp [pureL]) (fun _ => rfl) (fun _ _ => by kernel_rfl)
      · exact st_load C 38 37 2 h2 (by decide) (by simp [rowsL]) (by simp [pureL]) (by simp [pureL]) ⟨⟨37, .data⟩, by simp, rfl, rfl⟩ rfl (fun _ => rfl) (fun _ => rfl) C.c2
      · exact st_call16 C (r := (39, 6, 8, if h2 = true then 7 else 10)) 36 38 h2 rfl (by simp [rowsL]) (by simp [pureL]) (by simp [pureL]) (by simp [pureL]) ⟨⟨36, .data⟩, by simp, rfl, rfl⟩ ⟨⟨38, .data⟩, by simp, rfl, rfl⟩ rfl (fun _ => rfl) (fun _ => rfl) (fun _ _ => rfl)
      · exact st_ins (r := (39, 6, 8, if h2 = true then 7 else 10)) 35 (by simp [rowsL]) (by simp [pureL]) (by simp [pureL]) ⟨⟨0, .data⟩, by simp, rfl, rfl⟩ ⟨⟨35, .data⟩, by simp, rfl, rfl⟩ ⟨⟨39, .data⟩, by simp, rfl, rfl⟩ rfl rfl (fun _ => rfl) (fun _ => rfl)
      · exact st_pure 41 (pair 2 9) (by decide) (by simp [rowsL]) (by simp [pureL]) (fun _ => rfl) (fun _ _ => by kernel_rfl)
      · exact st_to C 42 (by decide) (by simp [rowsL]) (by simp [pureL]) rfl (fun _ => rfl)
      · exact st_call14 (r := (43, 2, 9, 8)) 42 (by simp [rowsL]) (by simp [pureL]) (by simp [pureL]) ⟨⟨42, .data⟩, by simp, rfl, rfl⟩ rfl (fun _ => rfl) (fun _ _ => rfl)
      · exact st_ins (r := (43, 2, 9, 8)) 41 (by simp [rowsL]) (by simp [pureL]) (by simp [pureL]) ⟨⟨0, .data⟩, by simp, rfl, rfl⟩ ⟨⟨41, .data⟩, by simp, rfl, rfl⟩ ⟨⟨43, .data⟩, by simp, rfl, rfl⟩ rfl rfl (fun _ => rfl) (fun _ => rfl)
      · exact st_pure 45 (pair 6 9) (by decide) (by simp [rowsL]) (by simp [pureL]) (fun _ => rfl) (fun _ _ => by kernel_rfl)
      · exact st_to C 46 (by decide) (by simp [rowsL]) (by simp [pureL]) rfl (fun _ => rfl)
      · exact st_call14 (r := (47, 6, 9, 8)) 46 (by simp [rowsL]) (by simp [pureL]) (by simp [pureL]) ⟨⟨46, .data⟩, by simp, rfl, rfl⟩ rfl (fun _ => rfl) (fun _ _ => rfl)
      · exact st_ins (r := (47, 6, 9, 8)) 45 (by simp [rowsL]) (by simp [pureL]) (by simp [pureL]) ⟨⟨0, .data⟩, by simp, rfl, rfl⟩ ⟨⟨45, .data⟩, by simp, rfl, rfl⟩ ⟨⟨47, .data⟩, by simp, rfl, rfl⟩ rfl rfl (fun _ => rfl) (fun _ => rfl)
      · exact st_pure 49 (pair 4 11) (by decide) (by simp [rowsL]) (by simp [pureL]) (fun _ => rfl) (fun _ _ => by kernel_rfl)
      · exact st_pure 50 (f16 (w.heap.size + 1)) (by decide) (by simp [rowsL]) (by simp [pureL]) (fun _ => rfl) (fun _ _ => by kernel_rfl)
      · exact st_pure 51 (.pointer (some ⟨w.heap.size, 3, none⟩)) (by decide) (by simp [rowsL]) (by simp [pureL]) (fun _ => rfl) (fun _ _ => by kernel_rfl)
      · exact st_load C 52 51 3 h3 (by decide) (by simp [rowsL]) (by simp [pureL]) (by simp [pureL]) ⟨⟨51, .data⟩, by simp, rfl, rfl⟩ rfl (fun _ => rfl) (fun _ => rfl) C.c3
      · exact st_call16 C (r := (53, 4, 11, if h3 = true then 1 else 8)) 50 52 h3 rfl (by simp [rowsL]) (by simp [pureL]) (by simp [pureL]) (by simp [pureL]) ⟨⟨50, .data⟩, by simp, rfl, rfl⟩ ⟨⟨52, .data⟩, by simp, rfl, rfl⟩ rfl (fun _ => rfl) (fun _ => rfl) (fun _ _ => rfl)
      · exact st_ins (r := (53, 4, 11, if h3 = true then 1 else 8)) 49 (by simp [rowsL]) (by simp [pureL]) (by simp [pureL]) ⟨⟨0, .data⟩, by simp, rfl, rfl⟩ ⟨⟨49, .data⟩, by simp, rfl, rfl⟩ ⟨⟨53, .data⟩, by simp, rfl, rfl⟩ rfl rfl (fun _ => rfl) (fun _ => rfl)
      · exact st_move (by simp [pureL]) ⟨⟨0, .data⟩, by simp, rfl, rfl⟩ (fun _ _ => rfl) (fun _ _ => by kernel_rfl)
      · exact st_last (by simp [pureL]) ⟨⟨55, .data⟩, by simp, rfl, rfl⟩ (fun _ _ => rfl) (fun _ _ => by kernel_rfl)
    · intro g L wx hl hm
      obtain ⟨b, hb, ht⟩ := Tab.of_made hl hm
      refine hK _ _ (Met.intro (hJ _ _ ?_))
      (repeat apply Exists.intro)
      refine ⟨?rel, rfl⟩
      case rel => exact ⟨b, hb, ht.mono (by omega)⟩
  case rest =>
    obtain ⟨b, rfl, hcut⟩ := hcut
    go_wp2
    go_loopw [11] (fun s wr => ∃ k : Nat, 1 ≤ k ∧ k ≤ 7 ∧ s = .int .u8 k ∧ Cut h0 h1 h2 h3 w k b wr) (fun s _ => 7 - (intOf s).toNat)
    case atStart => exact ⟨1, by omega, by omega, rfl, hcut⟩
    case round =>
      obtain ⟨k, hk1, hk7, rfl, hc⟩ := hrel
      have hct := hc.to
      by_cases h6 : k ≤ 6
      · obtain ⟨w2, hrun, hc2⟩ := hc.round hk1 h6
        have hlt : (k : Int) ≤ 6 := by omega
        go_wp2_with (go_at_call 14; refine (c14 _ _).mono ?_; rintro e w' ⟨rfl, rfl⟩)
        go_roundw
        case rel => exact ⟨k + 1, by omega, by omega, by go_num, hc2⟩
        case measure => simp [intOf]; omega
      · obtain rfl : k = 7 := by omega
        have hnn := eq_nil_nil
        have hnf := eq_fn_nil
        obtain ⟨hn, hs⟩ := Tab.look hc wp wq
        unfold pair at hn hs
        have hb := hc.below
        clear hc hct
        cases hT : nxk h0 h1 h2 h3 7 p q with
        | none =>
          have hrun := hn hT
          have HT := Lib.hid hT
          clear hn hs hT
          go_wp2
          go_ret2
          exact ⟨by simp [nxV, nxE, nx, HT.out], hb⟩
        | some c =>
          obtain ⟨n, hrun, hcell⟩ := hs c hT
          have HT := Lib.hid hT
          clear hn hs hT
          unfold clo at hrun
          go_wp2_with (go_at_call 15; refine (c15 _ _ _ hcell).mono ?_; rintro e w' ⟨rfl, rfl⟩)
          go_ret2
          exact ⟨by simp [nxV, nxE, nx, HT.out], hb⟩
end Go.Proofs.YtmfbkaepkooneaaDoor
