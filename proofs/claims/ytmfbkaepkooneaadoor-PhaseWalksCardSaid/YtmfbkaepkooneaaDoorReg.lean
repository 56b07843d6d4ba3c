/-
  The statement of phase.Next that makes its table, whose order of evaluation Go leaves open: in whatever order its operations come up, the table holds its eleven rows. Nothing is asked.
-/
import Derived.Test.YtmfbkaepkooneaaDoorTab
import Derived.Deep.DeepCutAuto
import Derived.Deep.Cut
import Derived.Laws.EntriesVeiled
namespace Go.Proofs.YtmfbkaepkooneaaDoor
open Go.RowKit Go.Maps
def f16 (T : Nat) : Value := .func (.func 16) #[] #[.pointer (some ⟨T, 0, none⟩)]
def f14 : Value := .func (.func 14) #[] #[]
/-- What the operations that make nothing yield. -/
def pureL (B : Nat) (h0 h1 h2 h3 : Bool) : List (Nat × Value) := [(1, pair 1 1), (2, f16 (B + 1)), (3, .pointer (some ⟨B, 0, none⟩)), (4, .bool h0), (7, pair 2 2), (8, f14), (11, pair 3 3), (12, f14), (15, pair 4 4), (16, f16 (B + 1)), (17, .pointer (some ⟨B, 1, none⟩)), (18, .bool h1), (21, pair 4 5), (22, f14), (25, pair 4 6), (26, f16 (B + 1)), (27, .pointer (some ⟨B, 1, none⟩)), (28, .bool h1), (31, pair 5 7), (32, f14), (35, pair 6 8), (36, f16 (B + 1)), (37, .pointer (some ⟨B, 2, none⟩)), (38, .bool h2), (41, pair 2 9), (42, f14), (45, pair 6 9), (46, f14), (49, pair 4 11), (50, f16 (B + 1)), (51, .pointer (some ⟨B, 3, none⟩)), (52, .bool h3)]
/-- The frame while the table is made. -/
def frame (B : Nat) (p q : Int) (h0 h1 h2 h3 : Bool) (g : Nat → Value) : Act := ⟨#[.int .u8 p, .int .u8 q, .agg #[.bool h0, .bool h1, .bool h2, .bool h3], undef, undef, .pointer (some ⟨B, 0, none⟩), .int .u8 0, .int .i64 0, .pointer (some ⟨B + 1, 0, none⟩), f16 (B + 1), g 56, undef, undef, f16 (B + 1), g 0, g 1, g 2, g 3, g 4, g 5, g 7, g 8, g 9, g 11, g 12, g 13, g 15, g 16, g 17, g 18, g 19, g 21, g 22, g 23, g 25, g 26, g 27, g 28, g 29, g 31, g 32, g 33, g 35, g 36, g 37, g 38, g 39, g 41, g 42, g 43, g 45, g 46, g 47, g 49, g 50, g 51, g 52, g 53, g 55, undef, undef, undef, undef, undef, undef, undef, undef, undef, undef, undef, undef, undef, undef, undef, undef, undef, undef], []⟩

/-- What stands in memory when the table is begun. -/
structure Stand (B : Nat) (h0 h1 h2 h3 : Bool) (w0 : World) : Prop where
  lt : B + 1 < w0.heap.size
  c0 : w0.cell? ⟨B, 0, none⟩ = some (.bool h0)
  c1 : w0.cell? ⟨B, 1, none⟩ = some (.bool h1)
  c2 : w0.cell? ⟨B, 2, none⟩ = some (.bool h2)
  c3 : w0.cell? ⟨B, 3, none⟩ = some (.bool h3)
  ct : w0.cell? ⟨B + 1, 0, none⟩ = some f14

def Step (B : Nat) (p q : Int) (h0 h1 h2 h3 : Bool) (w0 : World) (Q : Exit → Act → World → Prop) (i : Nat) (o : Oper) : Prop :=
  ∀ g L w, Made (rowsL h0 h1 h2 h3) (pureL B h0 h1 h2 h3) w0 g L w → L i = false → (∀ e ∈ o.after, Region.binds .any e = true → L e.on = true) →
    ∀ K : Act → World → Prop, (∀ g' w', Made (rowsL h0 h1 h2 h3) (pureL B h0 h1 h2 h3) w0 g' (upd L i true) w' → K (frame B p q h0 h1 h2 h3 g') w') →
      o.upon Tryd.prog (frame B p q h0 h1 h2 h3 g) K Q ((execOp (frame B p q h0 h1 h2 h3 g).eval o).run Tryd.prog w)

section
variable {B : Nat} {p q : Int} {h0 h1 h2 h3 : Bool} {w0 : World} {Q : Exit → Act → World → Prop}

theorem st_pure {o : Oper} (i : Nat) (v : Value) (hs : i ≠ 0 ∧ i ≠ 55 ∧ i ≠ 56) (hr : ∀ r ∈ rowsL h0 h1 h2 h3, i ≠ r.1 ∧ i ≠ r.1 + 1) (hp : ∀ x ∈ pureL B h0 h1 h2 h3, x.1 = i → x.2 = v)
    (hput : ∀ g, (frame B p q h0 h1 h2 h3 g).put o.dst v = frame B p q h0 h1 h2 h3 (upd g i v)) (hrun : ∀ g w, (execOp (frame B p q h0 h1 h2 h3 g).eval o).run Tryd.prog w = .ok (.value v) w) : Step B p q h0 h1 h2 h3 w0 Q i o := by
  intro g L w hm _ _ K hK
  rw [hrun, Oper.upon_value, hput]
  exact hK _ _ (hm.putPure hs.1 hs.2.1 hs.2.2 hr hp)


theorem run_load4 (o : Oper) (ρ : Operand → Value) (x : Operand) (w : World) (a : Addr) (b : Bool) (ho : o.op = .load 4 x) (hx : ρ x = .pointer (some a)) (h : w.cell? a = some (.bool b)) : (execOp ρ o).run Tryd.prog w = .ok (.value (.bool b)) w := by
  unfold execOp
  rw [ho]
  go_simp
theorem run_load39 (o : Oper) (ρ : Operand → Value) (x : Operand) (w : World) (a : Addr) (ho : o.op = .load 39 x) (hx : ρ x = .pointer (some a)) (h : w.cell? a = some f14) : (execOp ρ o).run Tryd.prog w = .ok (.value f14) w := by
  unfold execOp
  rw [ho]
  unfold f14 at *
  go_simp
theorem run_make (o : Oper) (ρ : Operand → Value) (w : World) (ho : o.op = .makeMap 43 none) : (execOp ρ o).run Tryd.prog w = .ok (.value (.map (some w.heap.size))) (w.alloc (.map #[] 0)) := by
  have hmm := @run_makeMap Tryd.prog
  unfold execOp
  rw [ho]
  go_simp
theorem run_call14 (o : Oper) (ρ : Operand → Value) (x y : Operand) (c : Int) (w : World) (ho : o.op = .call { callee := .value x, args := #[y], argTypes := #[5] }) (hx : ρ x = f14) (hy : ρ y = .int .u8 c) : (execOp ρ o).run Tryd.prog w = .ok (.enter 14 #[.int .u8 c]) w := by
  unfold execOp
  rw [ho]
  unfold f14 at *
  go_simp
theorem run_call16 (o : Oper) (ρ : Operand → Value) (x y y1 y2 : Operand) (b : Bool) (c d : Int) (T : Nat) (w : World) (ho : o.op = .call { callee := .value x, args := #[y, y1, y2], argTypes := #[4, 5, 5] }) (hx : ρ x = f16 T) (hy : ρ y = .bool b) (hy1 : ρ y1 = .int .u8 c) (hy2 : ρ y2 = .int .u8 d) :
    (execOp ρ o).run Tryd.prog w = .ok (.enter 16 #[.bool b, .int .u8 c, .int .u8 d, .pointer (some ⟨T, 0, none⟩)]) w := by
  unfold execOp
  rw [ho]
  unfold f16 at *
  go_simp
theorem run_ins (o : Oper) (ρ : Operand → Value) (x y z : Operand) (v k u : Value) (w w' : World) (ho : o.op = .insert 43 x y z) (hx : ρ x = v) (hy : ρ y = k) (hz : ρ z = u) (h : (Instr.mapUpdate 43 v k u).run Tryd.prog w = .ok () w') :
    (execOp ρ o).run Tryd.prog w = .ok .skip w' := by
  unfold execOp
  rw [ho]
  subst hx hy hz
  go_simp

theorem st_load {o : Oper} {t : Nat} (C : Stand B h0 h1 h2 h3 w0) (i d j : Nat) (b : Bool) (hs : i ≠ 0 ∧ i ≠ 55 ∧ i ≠ 56) (hr : ∀ r ∈ rowsL h0 h1 h2 h3, i ≠ r.1 ∧ i ≠ r.1 + 1) (hp : ∀ x ∈ pureL B h0 h1 h2 h3, x.1 = i → x.2 = .bool b)
    (hd : (d, .pointer (some ⟨B, j, none⟩)) ∈ pureL B h0 h1 h2 h3) (he : ∃ e ∈ o.after, Region.binds .any e = true ∧ e.on = d)
    (ho : o.op = .load 4 (.tmp t)) (hev : ∀ g, (frame B p q h0 h1 h2 h3 g).eval (.tmp t) = g d)
    (hput : ∀ g, (frame B p q h0 h1 h2 h3 g).put o.dst (.bool b) = frame B p q h0 h1 h2 h3 (upd g i (.bool b))) (hc : w0.cell? ⟨B, j, none⟩ = some (.bool b)) : Step B p q h0 h1 h2 h3 w0 Q i o := by
  intro g L w hm _ hl K hK
  obtain ⟨e, he, hb, rfl⟩ := he
  have e1 := hm.pure _ hd (hl e he hb)
  have hc' : w.cell? ⟨B, j, none⟩ = some (.bool b) := (hm.below.cell (by have := C.lt; show B < _; omega)).trans hc
  rw [run_load4 o _ (.tmp t) w ⟨B, j, none⟩ b ho ((hev g).trans e1) hc', Oper.upon_value, hput]
  exact hK _ _ (hm.putPure hs.1 hs.2.1 hs.2.2 hr hp)

theorem st_to {o : Oper} (C : Stand B h0 h1 h2 h3 w0) (i : Nat) (hs : i ≠ 0 ∧ i ≠ 55 ∧ i ≠ 56) (hr : ∀ r ∈ rowsL h0 h1 h2 h3, i ≠ r.1 ∧ i ≠ r.1 + 1) (hp : ∀ x ∈ pureL B h0 h1 h2 h3, x.1 = i → x.2 = f14)
    (ho : o.op = .load 39 (.tmp 8)) (hput : ∀ g, (frame B p q h0 h1 h2 h3 g).put o.dst f14 = frame B p q h0 h1 h2 h3 (upd g i f14)) : Step B p q h0 h1 h2 h3 w0 Q i o := by
  intro g L w hm _ _ K hK
  have hc' : w.cell? ⟨B + 1, 0, none⟩ = some f14 := (hm.below.cell (by have := C.lt; show B + 1 < _; omega)).trans C.ct
  rw [run_load39 o _ (.tmp 8) w ⟨B + 1, 0, none⟩ ho rfl hc', Oper.upon_value, hput]
  exact hK _ _ (hm.putPure hs.1 hs.2.1 hs.2.2 hr hp)

theorem st_make {o : Oper} (ho : o.op = .makeMap 43 none) (hp : ∀ x ∈ pureL B h0 h1 h2 h3, x.1 ≠ 0) (hput : ∀ g v, (frame B p q h0 h1 h2 h3 g).put o.dst v = frame B p q h0 h1 h2 h3 (upd g 0 v)) : Step B p q h0 h1 h2 h3 w0 Q 0 o := by
  intro g L w hm hu _ K hK
  rw [run_make o _ w ho, Oper.upon_value, hput]
  exact hK _ _ (hm.make (fine h0 h1 h2 h3) hu hp)

theorem st_call14 {o : Oper} {t : Nat} {r : Nat × Int × Int × Int} (d : Nat) (hr : r ∈ rowsL h0 h1 h2 h3) (hp : ∀ x ∈ pureL B h0 h1 h2 h3, x.1 ≠ r.1) (hd : (d, f14) ∈ pureL B h0 h1 h2 h3) (he : ∃ e ∈ o.after, Region.binds .any e = true ∧ e.on = d)
    (ho : o.op = .call { callee := .value (.tmp t), args := #[.const (.int .u8 r.2.2.2)], argTypes := #[5] }) (hev : ∀ g, (frame B p q h0 h1 h2 h3 g).eval (.tmp t) = g d)
    (hput : ∀ g v, (frame B p q h0 h1 h2 h3 g).put o.dst v = frame B p q h0 h1 h2 h3 (upd g r.1 v)) : Step B p q h0 h1 h2 h3 w0 Q r.1 o := by
  intro g L w hm hu hl K hK
  obtain ⟨e, he, hb, rfl⟩ := he
  have e1 := hm.pure _ hd (hl e he hb)
  rw [run_call14 o _ _ _ r.2.2.2 w ho ((hev g).trans e1) rfl, Oper.upon_enter]
  refine (c14 _ _).mono ?_
  rintro e w' ⟨rfl, rfl⟩
  simp only [hput]
  exact hK _ _ (hm.called (fine h0 h1 h2 h3) hr hp)

theorem st_call16 {o : Oper} {t t1 : Nat} {y n : Int} {r : Nat × Int × Int × Int} (C : Stand B h0 h1 h2 h3 w0) (d d1 : Nat) (b : Bool) (hv : r.2.2.2 = if b = true then y else n) (hr : r ∈ rowsL h0 h1 h2 h3) (hp : ∀ x ∈ pureL B h0 h1 h2 h3, x.1 ≠ r.1) (hd : (d, f16 (B + 1)) ∈ pureL B h0 h1 h2 h3) (hd1 : (d1, .bool b) ∈ pureL B h0 h1 h2 h3)
    (he : ∃ e ∈ o.after, Region.binds .any e = true ∧ e.on = d) (he1 : ∃ e ∈ o.after, Region.binds .any e = true ∧ e.on = d1)
    (ho : o.op = .call { callee := .value (.tmp t), args := #[.tmp t1, .const (.int .u8 y), .const (.int .u8 n)], argTypes := #[4, 5, 5] }) (hev : ∀ g, (frame B p q h0 h1 h2 h3 g).eval (.tmp t) = g d) (hev1 : ∀ g, (frame B p q h0 h1 h2 h3 g).eval (.tmp t1) = g d1)
    (hput : ∀ g v, (frame B p q h0 h1 h2 h3 g).put o.dst v = frame B p q h0 h1 h2 h3 (upd g r.1 v)) : Step B p q h0 h1 h2 h3 w0 Q r.1 o := by
  intro g L w hm hu hl K hK
  obtain ⟨e, he, hb, rfl⟩ := he
  obtain ⟨e', he', hb', rfl⟩ := he1
  have e1 := hm.pure _ hd (hl e he hb)
  have e2 := hm.pure _ hd1 (hl e' he' hb')
  have hc' : w.cell? ⟨B + 1, 0, none⟩ = some f14 := (hm.below.cell (by have := C.lt; show B + 1 < _; omega)).trans C.ct
  rw [run_call16 o _ _ _ _ _ b y n (B + 1) w ho ((hev g).trans e1) ((hev1 g).trans e2) rfl rfl, Oper.upon_enter]
  refine (c16 _ _ _ _ _ hc').mono ?_
  rintro e w' ⟨rfl, rfl⟩
  simp only [hput]
  rw [← hv]
  exact hK _ _ (hm.called (fine h0 h1 h2 h3) hr hp)

theorem st_ins {o : Oper} {t t1 : Nat} {r : Nat × Int × Int × Int} (d1 : Nat) (hr : r ∈ rowsL h0 h1 h2 h3) (hp : ∀ x ∈ pureL B h0 h1 h2 h3, x.1 ≠ r.1 + 1) (hd1 : (d1, pair r.2.1 r.2.2.1) ∈ pureL B h0 h1 h2 h3)
    (he : ∃ e ∈ o.after, Region.binds .any e = true ∧ e.on = 0) (he1 : ∃ e ∈ o.after, Region.binds .any e = true ∧ e.on = d1) (he2 : ∃ e ∈ o.after, Region.binds .any e = true ∧ e.on = r.1)
    (ho : o.op = .insert 43 (.tmp 14) (.tmp t) (.tmp t1)) (hdst : o.dst = none) (hev : ∀ g, (frame B p q h0 h1 h2 h3 g).eval (.tmp t) = g d1) (hev1 : ∀ g, (frame B p q h0 h1 h2 h3 g).eval (.tmp t1) = g r.1) : Step B p q h0 h1 h2 h3 w0 Q (r.1 + 1) o := by
  intro g L w hm hu hl K hK
  obtain ⟨e, he, hb, e0⟩ := he
  obtain ⟨e', he', hb', rfl⟩ := he1
  obtain ⟨e'', he'', hb'', e3⟩ := he2
  have l0 := hl e he hb
  have l1 := hl e'' he'' hb''
  rw [e0] at l0
  rw [e3] at l1
  have e2 := hm.pure _ hd1 (hl e' he' hb')
  obtain ⟨b, n, w', g0, g1, hrun, hm'⟩ := hm.put (fine h0 h1 h2 h3) hr hp hu l0 l1
  rw [run_ins o _ _ _ _ _ _ _ w w' ho (show _ = Value.map (some b) from g0) ((hev g).trans e2) ((hev1 g).trans g1) hrun, Oper.upon_skip, hdst]
  exact hK _ _ hm'

theorem st_move {o : Oper} (hp : ∀ x ∈ pureL B h0 h1 h2 h3, x.1 ≠ 55) (he : ∃ e ∈ o.after, Region.binds .any e = true ∧ e.on = 0) (hput : ∀ g v, (frame B p q h0 h1 h2 h3 g).put o.dst v = frame B p q h0 h1 h2 h3 (upd g 55 v))
    (hrun : ∀ g w, (execOp (frame B p q h0 h1 h2 h3 g).eval o).run Tryd.prog w = .ok (.value (g 0)) w) : Step B p q h0 h1 h2 h3 w0 Q 55 o := by
  intro g L w hm hu hl K hK
  obtain ⟨e, he, hb, e0⟩ := he
  have l0 := hl e he hb
  rw [e0] at l0
  rw [hrun, Oper.upon_value, hput]
  exact hK _ _ (hm.move (fine h0 h1 h2 h3) hp l0 hu)

theorem st_last {o : Oper} (hp : ∀ x ∈ pureL B h0 h1 h2 h3, x.1 ≠ 56) (he : ∃ e ∈ o.after, Region.binds .any e = true ∧ e.on = 55) (hput : ∀ g v, (frame B p q h0 h1 h2 h3 g).put o.dst v = frame B p q h0 h1 h2 h3 (upd g 56 v))
    (hrun : ∀ g w, (execOp (frame B p q h0 h1 h2 h3 g).eval o).run Tryd.prog w = .ok (.value (g 55)) w) : Step B p q h0 h1 h2 h3 w0 Q 56 o := by
  intro g L w hm hu hl K hK
  obtain ⟨e, he, hb, e0⟩ := he
  have l0 := hl e he hb
  rw [e0] at l0
  rw [hrun, Oper.upon_value, hput]
  exact hK _ _ (hm.last (fine h0 h1 h2 h3) hp l0)

/-- Each operation of a list, by its number. -/
def AllFrom (S : Nat → Oper → Prop) : Nat → List Oper → Prop
  | _, [] => True
  | k, o :: r => S k o ∧ AllFrom S (k + 1) r
theorem allFrom_get {S : Nat → Oper → Prop} : ∀ {l : List Oper} {k : Nat}, AllFrom S k l → ∀ i o, l[i]? = some o → S (k + i) o
  | [], _, _, i, o, h => by simp at h
  | x :: r, k, ⟨h1, h2⟩, 0, o, h => by simp at h; subst h; exact h1
  | x :: r, k, ⟨h1, h2⟩, i + 1, o, h => by
    have := allFrom_get h2 i o (by simpa using h)
    rw [show k + (i + 1) = k + 1 + i from by omega]
    exact this

theorem wpOp_at {P : Program} {ops : Array Oper} {Q : Exit → Act → World → Prop} {i : Nat} {o : Oper} {K : Act → World → Prop} {a : Act} {w : World} (ho : ops[i]? = some o) (hg : o.guard = none)
    (h : o.upon P a K Q ((execOp a.eval o).run P w)) : wpOp P ops Q i K a w := by
  unfold wpOp
  rw [ho]
  simp only [Region.wanted, hg, if_true]
  exact .inl h

/-- THE REGION, in whatever order. -/
theorem region_any {id : Nat} {l : List Oper} (hm : Tryd.prog.follows .mixedOrders = true) (he : Region.earlier .any l.toArray = true) (hlen : l.length = 57) (hg : l.all (·.guard.isNone) = true)
    (hS : AllFrom (Step B p q h0 h1 h2 h3 w0 Q) 0 l) (g0 : Nat → Value)
    (hend : ∀ g L w, (∀ i, i < 57 → L i = true) → Made (rowsL h0 h1 h2 h3) (pureL B h0 h1 h2 h3) w0 g L w → Q .normal (frame B p q h0 h1 h2 h3 g) w) : (Code.region id l.toArray true).wp Tryd.prog Q (frame B p q h0 h1 h2 h3 g0) w0 := by
  have hz : l.toArray.size = 57 := by simpa using hlen
  refine wp_region_inv (Inv := fun listed a w => ∃ g, a = frame B p q h0 h1 h2 h3 g ∧ Made (rowsL h0 h1 h2 h3) (pureL B h0 h1 h2 h3) w0 g (fun i => listed.getD i false) w) hm he ?_ ?_ ?_
  · refine ⟨g0, rfl, ?_⟩
    have : (fun i => (Array.replicate l.toArray.size false).getD i false) = fun _ => false := by
      funext i
      simp only [Array.getD_eq_getD_getElem?, Array.getElem?_replicate]
      split <;> rfl
    rw [this]
    exact Made.start w0 g0 _ (Below.refl _ _).drew
  · rintro listed a w i o hs ⟨g, rfl, hmd⟩ ho hu hl
    have hgo : o.guard = none := by
      have := List.all_eq_true.1 hg o (by simpa using Array.mem_of_getElem? ho)
      simpa using this
    have hi : i < listed.size := by rw [hs]; exact (Array.getElem?_eq_some_iff.1 ho).1
    refine wpOp_at ho hgo ?_
    have hstep := allFrom_get hS i o (by simpa using ho)
    rw [Nat.zero_add] at hstep
    refine hstep g _ w hmd ?_ hl _ fun g' w' hmd' => ⟨g', rfl, ?_⟩
    · simpa [hi] using hu
    · have : (fun j => (listed.setIfInBounds i true).getD j false) = upd (fun j => listed.getD j false) i true := by
        funext j
        unfold upd
        split
        · rename_i e; subst e; simp [hi]
        · rename_i e; simp [Ne.symm e]
      rw [this]
      exact hmd'
  · rintro listed a w hall ⟨g, rfl, hmd⟩
    exact hend g _ w (fun i hi => hall i (by omega)) hmd
end
end Go.Proofs.YtmfbkaepkooneaaDoor
