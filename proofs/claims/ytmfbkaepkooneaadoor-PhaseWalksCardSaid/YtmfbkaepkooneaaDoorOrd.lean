/-
  A region whose order of evaluation Go leaves open, met by an invariant over what has come up: if each operation that may come up carries the invariant on, it holds of all of them at the end, in whatever order. Condition: each operation waits for earlier ones alone.
-/
import Derived.Orders
namespace Go
section
variable {P : Program} {ops : Array Oper} {Q : Exit → Act → World → Prop} {md : Region.Mode}

theorem mem_readyI {listed : Array Bool} {i : Nat} : i ∈ Region.ready md ops listed ↔
    i < ops.size ∧ listed.getD i true = false ∧ ∃ o, ops[i]? = some o ∧ ∀ e ∈ o.after, Region.binds md e = true → listed.getD e.on false = true := by
  unfold Region.ready
  rw [List.mem_filter, List.mem_range]
  constructor
  · rintro ⟨hi, h⟩
    rw [Bool.and_eq_true] at h
    obtain ⟨h1, h2⟩ := h
    refine ⟨hi, by simpa using h1, ?_⟩
    cases ho : ops[i]? with
    | none => rw [ho] at h2; simp at h2
    | some o =>
      rw [ho] at h2
      refine ⟨o, rfl, fun e he hb => ?_⟩
      simp only [Option.map_some, Option.getD_some, Array.all_eq_true'] at h2
      have := h2 e he
      rw [hb] at this
      simpa using this
  · rintro ⟨hi, h1, o, ho, h2⟩
    refine ⟨hi, ?_⟩
    rw [Bool.and_eq_true]
    refine ⟨by simpa using h1, ?_⟩
    rw [ho]
    simp only [Option.map_some, Option.getD_some, Array.all_eq_true']
    intro e he
    cases hb : Region.binds md e with
    | false => simp
    | true => simpa using h2 e he hb

/-- How many have not come up. -/
def unlisted (l : Array Bool) : Nat := l.toList.count false

theorem unlisted_set {l : Array Bool} {i : Nat} (h : l.getD i true = false) : unlisted (l.setIfInBounds i true) + 1 = unlisted l := by
  obtain ⟨l⟩ := l
  unfold unlisted
  have hi : i < l.length := by
    rcases Nat.lt_or_ge i l.length with h' | h'
    · exact h'
    · simp [h'] at h
  have hl : l[i] = false := by simpa [hi] using h
  simp only [List.setIfInBounds_toArray]
  clear h
  induction l generalizing i with
  | nil => simp at hi
  | cons x xs ih =>
    cases i with
    | zero => simp at hl; subst hl; simp
    | succ j =>
      simp at hi hl
      have := ih hi hl
      simp only [List.set_cons_succ, List.count_cons]
      omega

/-- Each operation waits for earlier ones alone. -/
def Region.earlier (md : Region.Mode) (ops : Array Oper) : Bool :=
  (List.range ops.size).all fun i => ((ops[i]?).map (·.after.all fun e => !Region.binds md e || decide (e.on < i))).getD true

theorem Region.earlier_spec (h : Region.earlier md ops = true) {i : Nat} {o : Oper} (ho : ops[i]? = some o) : ∀ e ∈ o.after, Region.binds md e = true → e.on < i := by
  intro e he hb
  have hi : i < ops.size := (Array.getElem?_eq_some_iff.1 ho).1
  have h1 := List.all_eq_true.1 h i (List.mem_range.2 hi)
  rw [ho] at h1
  simp only [Option.map_some, Option.getD_some, Array.all_eq_true'] at h1
  have := h1 e he
  rw [hb] at this
  simpa using this

theorem all_listed (he : Region.earlier md ops = true) {listed : Array Bool} (hs : listed.size = ops.size) (hr : Region.ready md ops listed = []) : ∀ i, i < ops.size → listed.getD i false = true := by
  intro i
  induction i using Nat.strongRecOn with
  | ind i ih =>
    intro hi
    cases hc : listed.getD i true with
    | true =>
      have : i < listed.size := by omega
      simpa [this] using hc
    | false =>
      exfalso
      have : i ∈ Region.ready md ops listed := by
        refine mem_readyI.2 ⟨hi, hc, ops[i], Array.getElem?_eq_getElem hi, fun e hem hb => ?_⟩
        have hlt := Region.earlier_spec he (Array.getElem?_eq_getElem hi) e hem hb
        exact ih e.on hlt (by omega)
      rw [hr] at this
      cases this

/-- THE LAW. -/
theorem wpAny_inv {Inv : Array Bool → Act → World → Prop} (he : Region.earlier md ops = true)
    (hstep : ∀ (listed : Array Bool) a w i o, listed.size = ops.size → Inv listed a w → ops[i]? = some o → listed.getD i true = false → (∀ e ∈ o.after, Region.binds md e = true → listed.getD e.on false = true) →
      wpOp P ops Q i (Inv (listed.setIfInBounds i true)) a w)
    (hend : ∀ (listed : Array Bool) a w, (∀ i, i < ops.size → listed.getD i false = true) → Inv listed a w → Q .normal a w) :
    ∀ (fuel : Nat) (listed : Array Bool) (a : Act) (w : World), listed.size = ops.size → unlisted listed ≤ fuel → Inv listed a w → wpAny P md ops Q fuel listed a w := by
  intro fuel
  induction fuel with
  | zero =>
    intro listed a w hs hu hI
    have hr : Region.ready md ops listed = [] := by
      cases hc : Region.ready md ops listed with
      | nil => rfl
      | cons i r =>
        have hm : i ∈ Region.ready md ops listed := by rw [hc]; simp
        have := unlisted_set (mem_readyI.1 hm).2.1
        omega
    exact ⟨hr, hend _ _ _ (all_listed he hs hr) hI⟩
  | succ fuel ih =>
    intro listed a w hs hu hI
    refine ⟨fun hr => hend _ _ _ (all_listed he hs hr) hI, fun i hi => ?_⟩
    obtain ⟨_, h1, o, ho, h2⟩ := mem_readyI.1 hi
    refine wpOp_mono (fun a' w' h => ih _ a' w' (by simpa using hs) ?_ h) (hstep listed a w i o hs hI ho h1 h2)
    have := unlisted_set h1
    omega

theorem wp_region_inv {id : Nat} {a : Act} {w : World} {Inv : Array Bool → Act → World → Prop} (hm : P.follows .mixedOrders = true) (he : Region.earlier .any ops = true)
    (h0 : Inv (Array.replicate ops.size false) a { w with drawn := w.drawn + 1 })
    (hstep : ∀ (listed : Array Bool) a w i o, listed.size = ops.size → Inv listed a w → ops[i]? = some o → listed.getD i true = false → (∀ e ∈ o.after, Region.binds .any e = true → listed.getD e.on false = true) →
      wpOp P ops Q i (Inv (listed.setIfInBounds i true)) a w)
    (hend : ∀ (listed : Array Bool) a w, (∀ i, i < ops.size → listed.getD i false = true) → Inv listed a w → Q .normal a w) : (Code.region id ops true).wp P Q a w :=
  wp_region_any hm (wpAny_inv he hstep hend ops.size _ a _ (by simp) (by simp [unlisted]) h0)
end
end Go
