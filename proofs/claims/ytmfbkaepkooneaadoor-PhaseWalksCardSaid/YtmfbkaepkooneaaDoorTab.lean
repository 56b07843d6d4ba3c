/-
  The table that phase.Next makes: what a map of functions holds, key by key, and how it is carried on while the table is made in whatever order. Nothing is asked but that the keys are bytes.
-/
import Derived.Test.YtmfbkaepkooneaaDoorClos
import Derived.Test.YtmfbkaepkooneaaDoorOrd
import Derived.Maps.Own
import Derived.Maps.Views
import Derived.DeepKeys4
namespace Go.Proofs.YtmfbkaepkooneaaDoor
open Go.RowKit Go.WideMaps Go.Maps

theorem laidOut : laidOutB Tryd.prog = true := by kernel_rfl
theorem row42 : (42 : TypeId) < Tryd.prog.types.size := of_decide_eq_true (by kernel_rfl)
theorem wide42 : (match Tryd.prog.underlying 42 with | some (.array _ _) | some (.struct _) => true | _ => false) = true := by rw [Tryd.underlying42]
theorem law42 : Keyed Tryd.prog 42 := Keyed.of_law (deep_law_laid laidOut (m := 2) (by omega) row42 (by kernel_rfl) wide42)
theorem zero38 (w : World) : (zeroValue 38).run Tryd.prog w = .ok .nilFunc w := by kernel_rfl
theorem keyType42 : Tryd.prog.keyType 42 = true := by kernel_rfl
theorem cells42 : Tryd.prog.cellsOf 42 = 2 := by kernel_rfl
theorem cells5 : Tryd.prog.cellsOf 5 = 1 := by kernel_rfl
theorem size63 : Tryd.prog.types.size = 63 := by kernel_rfl

def key (p q : Int) : Lit := .string (keyBytes [.int .u8 p, .int .u8 q])
def pair (p q : Int) : Value := .agg #[.int .u8 p, .int .u8 q]

theorem wf8 {p : Int} (h0 : 0 ≤ p) (h1 : p ≤ 255) : (Lit.int .u8 p).wf = true := by
  simp [Lit.wf, IntKind.min, IntKind.max, IntKind.signed, IntKind.bits]; omega

theorem lits5 (d : Nat) {p : Int} (hp : (Lit.int .u8 p).wf = true) : Tryd.prog.keyLits (d + 1) 5 [.int .u8 p] = some [.int .u8 p] := by
  unfold Program.keyLits
  simp [Tryd.underlying5, hp]
theorem lits42 (d : Nat) {p q : Int} (hp : (Lit.int .u8 p).wf = true) (hq : (Lit.int .u8 q).wf = true) : Tryd.prog.keyLits (d + 1 + 1) 42 [.int .u8 p, .int .u8 q] = some [.int .u8 p, .int .u8 q] := by
  unfold Program.keyLits
  simp [Tryd.underlying42, cells42, cells5, lits5, hp, hq]
theorem key_ok {p q : Int} (hp : (Lit.int .u8 p).wf = true) (hq : (Lit.int .u8 q).wf = true) : keyOf Tryd.prog 42 (pair p q) = some (key p q) := by
  unfold keyOf pair
  rw [Tryd.underlying42, size63]
  have h := lits42 62 hp hq
  simp [keyType42, Value.formed, Tryd.underlying42, cells42, Value.cells, h, key]

theorem key_inj {p q p' q' : Int} (hp : (Lit.int .u8 p).wf = true) (hq : (Lit.int .u8 q).wf = true) (hp' : (Lit.int .u8 p').wf = true) (hq' : (Lit.int .u8 q').wf = true) (h : key p q = key p' q') : p = p' ∧ q = q' := by
  have := law42.inj (key_ok hp hq) (h ▸ key_ok hp' hq')
  simp [pair] at this
  exact this


/-- How a function among the table's elements reads: by the block that it captures; none at all: nil. -/
noncomputable def rf (v : Value) : Option (DataW Unit × List MemPlace) := by
  classical
  exact if h : ∃ n, v = clo n then some (.lit (.int .i64 (h.choose : Nat)), []) else if v = .nilFunc then some (.nil, []) else none

theorem clo_inj {n m : Nat} (h : clo n = clo m) : n = m := by simpa [clo] using h
theorem clo_ne (n : Nat) : Value.nilFunc ≠ clo n := by simp [clo]
theorem rf_clo (n : Nat) : rf (clo n) = some (.lit (.int .i64 n), []) := by
  have h : ∃ m, clo n = clo m := ⟨n, rfl⟩
  unfold rf
  simp only [dif_pos h]
  have := clo_inj h.choose_spec
  rw [← this]
theorem rf_nil : rf .nilFunc = some (.nil, []) := by
  have h : ¬ ∃ m, Value.nilFunc = clo m := fun ⟨m, h⟩ => clo_ne m h
  unfold rf
  simp only [dif_neg h, if_true]
theorem rf_lit {v : Value} {n : Nat} {ps : List MemPlace} (h : rf v = some (.lit (.int .i64 n), ps)) : v = clo n := by
  unfold rf at h
  split at h
  · rename_i hx
    simp at h
    have := hx.choose_spec
    rw [this]
    exact congrArg clo (by have := h.1; omega)
  · split at h <;> simp at h
theorem rf_nil_inv {v : Value} {ps : List MemPlace} (h : rf v = some (.nil, ps)) : v = .nilFunc := by
  unfold rf at h
  split at h
  · simp at h
  · split at h
    · rename_i h2; exact h2
    · simp at h

/-- The rows of the table, as the text has them: where its function is made; the phase, what happens; the answer. -/
def rowsL (h0 h1 h2 h3 : Bool) : List (Nat × Int × Int × Int) :=
  [(5, 1, 1, if h0 = true then 2 else 3), (9, 2, 2, 3), (13, 3, 3, 4), (19, 4, 4, if h1 = true then 5 else 7), (23, 4, 5, 8), (29, 4, 6, if h1 = true then 5 else 10), (33, 5, 7, 6),
   (39, 6, 8, if h2 = true then 7 else 10), (43, 2, 9, 8), (47, 6, 9, 8), (53, 4, 11, if h3 = true then 1 else 8)]

theorem rows_bd (h0 h1 h2 h3 : Bool) : ∀ r ∈ rowsL h0 h1 h2 h3, (Lit.int .u8 r.2.1).wf = true ∧ (Lit.int .u8 r.2.2.1).wf = true ∧ r.1 ≠ 0 ∧ r.1 + 1 ≠ 0 ∧ r.1 < 54 := by
  simp [rowsL]; decide
theorem rows_ix (h0 h1 h2 h3 : Bool) : ∀ r ∈ rowsL h0 h1 h2 h3, ∀ r' ∈ rowsL h0 h1 h2 h3, (r.1 = r'.1 ∨ (r.2.1 = r'.2.1 ∧ r.2.2.1 = r'.2.2.1) → r = r') ∧ r.1 ≠ r'.1 + 1 := by
  revert h0 h1 h2 h3; decide
theorem rows_len (h0 h1 h2 h3 : Bool) : (rowsL h0 h1 h2 h3).length = 11 := rfl

/-- At the key stands a function that answers c. -/
def At (D : DataW Unit) (w : World) (p q c : Int) : Prop := ∃ n : Nat, D.atKey (key p q) .nil = .lit (.int .i64 n) ∧ w.cell? ⟨n, 0, none⟩ = some (.int .u8 c)

theorem At.kept {D : DataW Unit} {w w' : World} {p q c : Int} (h : At D w p q c) (hk : ∀ a v, w.cell? a = some v → w'.cell? a = some v) : At D w' p q c :=
  let ⟨n, h1, h2⟩ := h; ⟨n, h1, hk _ _ h2⟩

def upd {α : Type} (f : Nat → α) (i : Nat) (v : α) : Nat → α := fun j => if j = i then v else f j
theorem upd_same {α : Type} (f : Nat → α) (i : Nat) (v : α) : upd f i v i = v := by simp [upd]
theorem upd_ne {α : Type} (f : Nat → α) {i j : Nat} (v : α) (h : j ≠ i) : upd f i v j = f j := by simp [upd, h]

/-- What holds while the table is made: of what has come up (L), of the values of the operations (g), of the memory. -/
structure Made (R : List (Nat × Int × Int × Int)) (pureL : List (Nat × Value)) (w0 : World) (g : Nat → Value) (L : Nat → Bool) (w : World) : Prop where
  below : Below w0.heap.size w0 w
  own : L 0 = true → ∃ b D n, g 0 = .map (some b) ∧ w0.heap.size ≤ b ∧ w.ownsMap Tryd.prog 42 rf b n D ∧ n ≤ R.countP (fun r => L (r.1 + 1)) ∧ IsMap D ∧ (∀ r ∈ R, L (r.1 + 1) = true → At D w r.2.1 r.2.2.1 r.2.2.2) ∧ (∀ kl, (∀ r ∈ R, L (r.1 + 1) = true → kl ≠ key r.2.1 r.2.2.1) → D.atKey kl .nil = .nil)
  call : ∀ r ∈ R, L r.1 = true → ∃ n, g r.1 = clo n ∧ w.cell? ⟨n, 0, none⟩ = some (.int .u8 r.2.2.2)
  ins : ∀ r ∈ R, L (r.1 + 1) = true → L 0 = true
  pure : ∀ x ∈ pureL, L x.1 = true → g x.1 = x.2
  mv : L 55 = true → L 0 = true ∧ g 55 = g 0
  res : L 56 = true → L 55 = true ∧ g 56 = g 55

section
variable {R : List (Nat × Int × Int × Int)} {pureL : List (Nat × Value)} {w0 w : World} {g : Nat → Value} {L : Nat → Bool}

theorem Made.start (w0 : World) (g : Nat → Value) (w : World) (hw : Below w0.heap.size w0 w) : Made R pureL w0 g (fun _ => false) w :=
  ⟨hw, fun h => (Bool.false_ne_true h).elim, fun _ _ h => (Bool.false_ne_true h).elim, fun _ _ h => (Bool.false_ne_true h).elim, fun _ _ h => (Bool.false_ne_true h).elim, fun h => (Bool.false_ne_true h).elim, fun h => (Bool.false_ne_true h).elim⟩

theorem Made.putPure (h : Made R pureL w0 g L w) {i : Nat} {v : Value} (h0 : i ≠ 0) (h55 : i ≠ 55) (h56 : i ≠ 56) (hr : ∀ r ∈ R, i ≠ r.1 ∧ i ≠ r.1 + 1) (hp : ∀ x ∈ pureL, x.1 = i → x.2 = v) : Made R pureL w0 (upd g i v) (upd L i true) w where
  below := h.below
  own hl := by
    rw [upd_ne _ _ h0.symm] at hl
    obtain ⟨b, D, n, e1, e2, e3, e4, e5, e6, e7⟩ := h.own hl
    refine ⟨b, D, n, by rw [upd_ne _ _ h0.symm]; exact e1, e2, e3, ?_, e5, fun r hm hl => ?_, fun kl hk => ?_⟩
    · refine Nat.le_trans e4 (Nat.le_of_eq (List.countP_congr fun r hm => ?_))
      rw [upd_ne _ _ (hr r hm).2.symm]
    · rw [upd_ne _ _ (hr r hm).2.symm] at hl; exact e6 r hm hl
    · exact e7 kl fun r hm hl => hk r hm (by rw [upd_ne _ _ (hr r hm).2.symm]; exact hl)
  call r hm hl := by
    rw [upd_ne _ _ (hr r hm).1.symm] at hl
    obtain ⟨n, e1, e2⟩ := h.call r hm hl
    exact ⟨n, by rw [upd_ne _ _ (hr r hm).1.symm]; exact e1, e2⟩
  ins r hm hl := by
    rw [upd_ne _ _ (hr r hm).2.symm] at hl
    rw [upd_ne _ _ h0.symm]; exact h.ins r hm hl
  pure x hm hl := by
    by_cases e : x.1 = i
    · rw [e, upd_same]; exact (hp x hm e).symm
    · rw [upd_ne _ _ e] at hl ⊢; exact h.pure x hm hl
  mv hl := by
    rw [upd_ne _ _ h55.symm] at hl ⊢; rw [upd_ne _ _ h0.symm, upd_ne _ _ h0.symm]; exact h.mv hl
  res hl := by
    rw [upd_ne _ _ h56.symm] at hl ⊢; rw [upd_ne _ _ h55.symm, upd_ne _ _ h55.symm]; exact h.res hl

/-- The world turns, and no cell of those that stood has. -/
theorem Made.turn (h : Made R pureL w0 g L w) {w' : World} (hb : Below w0.heap.size w w') (hc : ∀ a v, w.cell? a = some v → w'.cell? a = some v) (hm : ∀ b n D, w0.heap.size ≤ b → w.ownsMap Tryd.prog 42 rf b n D → w'.ownsMap Tryd.prog 42 rf b n D) : Made R pureL w0 g L w' where
  below := h.below.trans hb
  own hl := by
    obtain ⟨b, D, n, e1, e2, e3, e4, e5, e6, e7⟩ := h.own hl
    exact ⟨b, D, n, e1, e2, hm _ _ _ e2 e3, e4, e5, fun r hr hl => (e6 r hr hl).kept hc, e7⟩
  call r hr hl := by
    obtain ⟨n, e1, e2⟩ := h.call r hr hl
    exact ⟨n, e1, hc _ _ e2⟩
  ins := h.ins
  pure := h.pure
  mv := h.mv
  res := h.res

theorem cell_alloc {w : World} {a : Addr} {v : Value} {o : Obj} (h : w.cell? a = some v) : (w.alloc o).cell? a = some v := by
  rw [World.cell?_alloc_lt _ _ _ (World.block_lt_of_cell? w a h)]; exact h

theorem Made.alloc (h : Made R pureL w0 g L w) (o : Obj) : Made R pureL w0 g L (w.alloc o) :=
  h.turn ((Below.refl _ _).alloc h.below.size o) (fun _ _ hc => cell_alloc hc) (fun _ _ _ _ ho => ho.alloc o)
theorem countP_lt {α : Type} {p q : α → Bool} : ∀ {l : List α}, (∀ x ∈ l, p x = true → q x = true) → (∃ x ∈ l, p x = false ∧ q x = true) → l.countP p + 1 ≤ l.countP q
  | [], _, ⟨_, hx, _⟩ => by cases hx
  | y :: r, h, ⟨x, hx, h1, h2⟩ => by
    have hr : r.countP p ≤ r.countP q := List.countP_mono_left fun z hz => h z (by simp [hz])
    simp only [List.countP_cons]
    rcases List.mem_cons.1 hx with rfl | hx
    · rw [h1, h2]; simp; exact hr
    · have := countP_lt (p := p) (q := q) (fun z hz => h z (by simp [hz])) ⟨x, hx, h1, h2⟩
      have hy := h y (by simp)
      cases hp : p y
      · simp; omega
      · rw [hy hp]; simp; omega

/-- Index facts of the rows. -/
structure Fine (R : List (Nat × Int × Int × Int)) : Prop where
  bd : ∀ r ∈ R, (Lit.int .u8 r.2.1).wf = true ∧ (Lit.int .u8 r.2.2.1).wf = true ∧ r.1 ≠ 0 ∧ r.1 + 1 ≠ 0 ∧ r.1 < 54
  ix : ∀ r ∈ R, ∀ r' ∈ R, (r.1 = r'.1 ∨ (r.2.1 = r'.2.1 ∧ r.2.2.1 = r'.2.2.1) → r = r') ∧ r.1 ≠ r'.1 + 1
  len : R.length ≤ 11

/-- The map is made. -/
theorem Made.make (h : Made R pureL w0 g L w) (F : Fine R) (hu : L 0 = false) (hp : ∀ x ∈ pureL, x.1 ≠ 0) : Made R pureL w0 (upd g 0 (.map (some w.heap.size))) (upd L 0 true) (w.alloc (.map #[] 0)) where
  below := h.below.alloc h.below.size _
  own _ := by
    refine ⟨w.heap.size, _, 0, upd_same _ _ _, h.below.size, World.ownsMap_made _ _ _ _, Nat.zero_le _, isMap_empty, fun r hm hl => ?_, fun kl _ => rfl⟩
    rw [upd_ne _ _ (F.bd r hm).2.2.2.1] at hl
    rw [h.ins r hm hl] at hu; cases hu
  call r hm hl := by
    rw [upd_ne _ _ (F.bd r hm).2.2.1] at hl
    obtain ⟨n, e1, e2⟩ := h.call r hm hl
    exact ⟨n, by rw [upd_ne _ _ (F.bd r hm).2.2.1]; exact e1, cell_alloc e2⟩
  ins _ _ _ := upd_same _ _ _
  pure x hm hl := by
    rw [upd_ne _ _ (hp x hm)] at hl ⊢; exact h.pure x hm hl
  mv hl := by
    rw [upd_ne _ _ (by decide)] at hl
    rw [(h.mv hl).1] at hu; cases hu
  res hl := by
    rw [upd_ne _ _ (by decide)] at hl
    have := (h.res hl).1
    rw [(h.mv this).1] at hu; cases hu

/-- A function is made. -/
theorem Made.called (h : Made R pureL w0 g L w) (F : Fine R) {r : Nat × Int × Int × Int} (hr : r ∈ R) (hp : ∀ x ∈ pureL, x.1 ≠ r.1) : Made R pureL w0 (upd g r.1 (clo w.heap.size)) (upd L r.1 true) (w.alloc (.cells #[.int .u8 r.2.2.2] 5)) := by
  have ha := h.alloc (.cells #[.int .u8 r.2.2.2] 5)
  have b0 := (F.bd r hr).2.2
  exact {
    below := ha.below
    own := fun hl => by
      rw [upd_ne _ _ b0.1.symm] at hl
      obtain ⟨b, D, n, e1, e2, e3, e4, e5, e6, e7⟩ := ha.own hl
      refine ⟨b, D, n, by rw [upd_ne _ _ b0.1.symm]; exact e1, e2, e3, ?_, e5, fun r' hm hl => ?_, fun kl hk => ?_⟩
      · refine Nat.le_trans e4 (Nat.le_of_eq (List.countP_congr fun r' hm => ?_))
        rw [upd_ne _ _ (F.ix r hr r' hm).2.symm]
      · rw [upd_ne _ _ (F.ix r hr r' hm).2.symm] at hl; exact e6 r' hm hl
      · exact e7 kl fun r' hm hl => hk r' hm (by rw [upd_ne _ _ (F.ix r hr r' hm).2.symm]; exact hl)
    call := fun r' hm hl => by
      by_cases e : r'.1 = r.1
      · have : r' = r := (F.ix r' hm r hr).1 (.inl e)
        subst this
        exact ⟨w.heap.size, upd_same _ _ _, by rw [World.cell?_alloc_at _ _ _ _ rfl]; rfl⟩
      · rw [upd_ne _ _ e] at hl
        obtain ⟨n, e1, e2⟩ := ha.call r' hm hl
        exact ⟨n, by rw [upd_ne _ _ e]; exact e1, e2⟩
    ins := fun r' hm hl => by
      rw [upd_ne _ _ (F.ix r hr r' hm).2.symm] at hl
      rw [upd_ne _ _ b0.1.symm]; exact ha.ins r' hm hl
    pure := fun x hm hl => by
      rw [upd_ne _ _ (hp x hm)] at hl ⊢; exact ha.pure x hm hl
    mv := fun hl => by
      have h55 : (55 : Nat) ≠ r.1 := by omega
      rw [upd_ne _ _ h55] at hl ⊢; rw [upd_ne _ _ b0.1.symm, upd_ne _ _ b0.1.symm]; exact ha.mv hl
    res := fun hl => by
      have h55 : (55 : Nat) ≠ r.1 := by omega
      have h56 : (56 : Nat) ≠ r.1 := by omega
      rw [upd_ne _ _ h56] at hl ⊢; rw [upd_ne _ _ h55, upd_ne _ _ h55]; exact ha.res hl }

/-- A function is put into the map. -/
theorem Made.put (h : Made R pureL w0 g L w) (F : Fine R) {r : Nat × Int × Int × Int} (hr : r ∈ R) (hp : ∀ x ∈ pureL, x.1 ≠ r.1 + 1) (hu : L (r.1 + 1) = false) (h0 : L 0 = true) (hc : L r.1 = true) :
    ∃ b n w', g 0 = .map (some b) ∧ g r.1 = clo n ∧ (Instr.mapUpdate 43 (.map (some b)) (pair r.2.1 r.2.2.1) (clo n)).run Tryd.prog w = .ok () w' ∧ Made R pureL w0 g (upd L (r.1 + 1) true) w' := by
  obtain ⟨b, D, n, e1, e2, e3, e4, e5, e6, e7⟩ := h.own h0
  obtain ⟨m, c1, c2⟩ := h.call r hr hc
  obtain ⟨bp, bq, b1, b2, b3⟩ := F.bd r hr
  have hk := key_ok bp bq
  have hn : n < maxLen := by
    have := List.countP_le_length (p := fun r : Nat × Int × Int × Int => L (r.1 + 1)) (l := R)
    have := F.len
    unfold maxLen; omega
  obtain ⟨w', hrun, ho, hg⟩ := e3.update law42 Tryd.underlying43 hn hk (rf_clo m)
  have hcell : ∀ a v, w.cell? a = some v → w'.cell? a = some v := by
    intro a v ha
    have hlt := World.block_lt_of_cell? w a ha
    rw [World.cell?_of_block (hg.block a.block hlt ?_)]; exact ha
    intro e
    obtain ⟨es, clock, hb, _⟩ := e3
    simp only [Option.some.injEq] at e
    rw [← e] at hb
    simp [World.cell?, hb] at ha
  have ik : WideAt.IsKeyLit (key r.2.1 r.2.2.1) := law42.key hk
  refine ⟨b, m, w', e1, c1, hrun, ?_⟩
  exact {
    below := h.below.grown hg h.below.size (fun k e => by cases e; exact e2)
    own := fun _ => by
      refine ⟨b, _, n + 1, e1, e2, ho, ?_, e5.put _ _, fun r' hm hl => ?_, fun kl hkl => ?_⟩
      · refine Nat.le_trans (Nat.succ_le_succ e4) (countP_lt (fun r' hm hl => ?_) ⟨r, hr, hu, upd_same _ _ _⟩)
        by_cases e : r'.1 + 1 = r.1 + 1
        · rw [e, upd_same]
        · rw [upd_ne _ _ e]; exact hl
      · by_cases e : r'.1 = r.1
        · have : r' = r := (F.ix r' hm r hr).1 (.inl e)
          subst this
          exact ⟨m, atKey_put_same e5 ik _ _, hcell _ _ c2⟩
        · rw [upd_ne _ _ (by omega)] at hl
          obtain ⟨k, k1, k2⟩ := e6 r' hm hl
          refine ⟨k, ?_, hcell _ _ k2⟩
          rw [atKey_put_other]
          · exact k1
          · intro hkk
            obtain ⟨bp', bq', _⟩ := F.bd r' hm
            have := key_inj bp' bq' bp bq hkk
            exact e (congrArg Prod.fst ((F.ix r' hm r hr).1 (.inr this)))
      · rw [atKey_put_other]
        · refine e7 kl fun r' hm hl => hkl r' hm ?_
          by_cases e : r'.1 + 1 = r.1 + 1
          · rw [e, upd_same]
          · rw [upd_ne _ _ e]; exact hl
        · exact hkl r hr (upd_same _ _ _)
    call := fun r' hm hl => by
      rw [upd_ne _ _ (F.ix r' hm r hr).2] at hl
      obtain ⟨k, k1, k2⟩ := h.call r' hm hl
      exact ⟨k, k1, hcell _ _ k2⟩
    ins := fun r' hm hl => by rw [upd_ne _ _ b2.symm]; exact h0
    pure := fun x hm hl => by
      rw [upd_ne _ _ (hp x hm)] at hl; exact h.pure x hm hl
    mv := fun hl => by
      rw [upd_ne _ _ (by omega)] at hl; rw [upd_ne _ _ b2.symm]; exact h.mv hl
    res := fun hl => by
      rw [upd_ne _ _ (by omega)] at hl; rw [upd_ne _ _ (by omega)]; exact h.res hl }

theorem Made.move (h : Made R pureL w0 g L w) (F : Fine R) (hp : ∀ x ∈ pureL, x.1 ≠ 55) (h0 : L 0 = true) (hu : L 55 = false) : Made R pureL w0 (upd g 55 (g 0)) (upd L 55 true) w where
  below := h.below
  own hl := by
    rw [upd_ne _ _ (by decide)] at hl
    obtain ⟨b, D, n, e1, e2, e3, e4, e5, e6, e7⟩ := h.own hl
    have h55 : ∀ r ∈ R, r.1 + 1 ≠ 55 := fun r hm => by have := (F.bd r hm).2.2.2.2; omega
    refine ⟨b, D, n, by rw [upd_ne _ _ (by decide)]; exact e1, e2, e3, ?_, e5, fun r' hm hl => ?_, fun kl hk => ?_⟩
    · refine Nat.le_trans e4 (Nat.le_of_eq (List.countP_congr fun r' hm => ?_))
      rw [upd_ne _ _ (h55 r' hm)]
    · rw [upd_ne _ _ (h55 r' hm)] at hl; exact e6 r' hm hl
    · exact e7 kl fun r' hm hl => hk r' hm (by rw [upd_ne _ _ (h55 r' hm)]; exact hl)
  call r hm hl := by
    have : r.1 ≠ 55 := by have := (F.bd r hm).2.2.2.2; omega
    rw [upd_ne _ _ this] at hl ⊢; exact h.call r hm hl
  ins r hm hl := by
    have : r.1 + 1 ≠ 55 := by have := (F.bd r hm).2.2.2.2; omega
    rw [upd_ne _ _ this] at hl; rw [upd_ne _ _ (by decide)]; exact h0
  pure x hm hl := by
    rw [upd_ne _ _ (hp x hm)] at hl ⊢; exact h.pure x hm hl
  mv _ := by rw [upd_ne _ _ (by decide), upd_same, upd_ne _ _ (by decide)]; exact ⟨h0, rfl⟩
  res hl := by
    rw [upd_ne _ _ (by decide)] at hl
    rw [(h.res hl).1] at hu; cases hu

theorem Made.last (h : Made R pureL w0 g L w) (F : Fine R) (hp : ∀ x ∈ pureL, x.1 ≠ 56) (h5 : L 55 = true) : Made R pureL w0 (upd g 56 (g 55)) (upd L 56 true) w where
  below := h.below
  own hl := by
    rw [upd_ne _ _ (by decide)] at hl
    obtain ⟨b, D, n, e1, e2, e3, e4, e5, e6, e7⟩ := h.own hl
    have h55 : ∀ r ∈ R, r.1 + 1 ≠ 56 := fun r hm => by have := (F.bd r hm).2.2.2.2; omega
    refine ⟨b, D, n, by rw [upd_ne _ _ (by decide)]; exact e1, e2, e3, ?_, e5, fun r' hm hl => ?_, fun kl hk => ?_⟩
    · refine Nat.le_trans e4 (Nat.le_of_eq (List.countP_congr fun r' hm => ?_))
      rw [upd_ne _ _ (h55 r' hm)]
    · rw [upd_ne _ _ (h55 r' hm)] at hl; exact e6 r' hm hl
    · exact e7 kl fun r' hm hl => hk r' hm (by rw [upd_ne _ _ (h55 r' hm)]; exact hl)
  call r hm hl := by
    have : r.1 ≠ 56 := by have := (F.bd r hm).2.2.2.2; omega
    rw [upd_ne _ _ this] at hl ⊢; exact h.call r hm hl
  ins r hm hl := by
    have : r.1 + 1 ≠ 56 := by have := (F.bd r hm).2.2.2.2; omega
    rw [upd_ne _ _ this] at hl; rw [upd_ne _ _ (by decide)]; exact h.ins r hm hl
  pure x hm hl := by
    rw [upd_ne _ _ (hp x hm)] at hl ⊢; exact h.pure x hm hl
  mv hl := by
    rw [upd_ne _ _ (by decide)] at hl
    rw [upd_ne _ _ (by decide), upd_ne _ _ (by decide), upd_ne _ _ (by decide)]; exact h.mv hl
  res _ := by rw [upd_ne _ _ (by decide), upd_same, upd_ne _ _ (by decide)]; exact ⟨h5, rfl⟩

theorem fine (h0 h1 h2 h3 : Bool) : Fine (rowsL h0 h1 h2 h3) := ⟨rows_bd h0 h1 h2 h3, rows_ix h0 h1 h2 h3, Nat.le_refl _⟩
end
end Go.Proofs.YtmfbkaepkooneaaDoor
