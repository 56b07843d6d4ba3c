/-
  What the rows' list gives: the units' table and the powers of ten; and a world that lays all of the list. Nothing is asked.
-/
import Derived.Test.YteamacekhfncnaaDoorHead
import Derived.Test.YteamacekhfncnaaDoorCards
import Derived.Test.YteamacekhfncnaaDoorTie
import Derived.ProofKit
import Derived.OpenShut
import Derived.LaidMore
import Derived.Lib.SmallJoins
import Derived.Deep.DeepWitnessRowRef
import Derived.Maps.OwnSet
import Derived.Stop.LaidErr
import Derived.Deep.DeepHandedRow
import Derived.ShutString
namespace Go.Proofs.YteamacekhfncnaaDoor
open Go.ChangeShapes Go.WideShapes Go.ChangeAt Go.RowKit Go.WideMaps Go.Maps

theorem own : ownKnob Tryd.prog.godebug = none := by kernel_rfl
theorem gUnits : Tryd.prog.globalNamed "forebay/unit.units" = some 0 := by kernel_rfl
theorem tUnits : (Tryd.prog.globals[0]?).map (·.type) = some 41 := by kernel_rfl
theorem gPow : Tryd.prog.globalNamed "internal/strconv.uint64pow10" = some 3 := by kernel_rfl
theorem gFirst : Tryd.prog.globalNamed "unicode/utf8.first" = some 4 := by kernel_rfl

theorem units_of_head {W : World} {rest : List (String × DataW Unit)} (h : laidMet Tryd.prog (("forebay/unit.units", Rows.laid_forebay_unit_units) :: rest) W) : Units W := by
  obtain ⟨ps, ⟨g', t', cs, fuel, p, q, hg', ht', hvar, hd, _, _⟩, _⟩ := h
  obtain rfl := Option.some.inj (gUnits.symm.trans hg')
  obtain rfl := Option.some.inj (tUnits.symm.trans ht')
  rcases WideElems.open_map Tryd.underlying41 hd with ⟨_, hx⟩ | ⟨bm, es, clock, m, rfl, hcs, hb, _, F, hx⟩
  · simp [Rows.laid_forebay_unit_units] at hx
  simp only [Prod.mk.injEq] at hx
  have hcell : W.cell? ⟨0, 0, none⟩ = some (.map (some bm)) := by
    have := World.var?_cell hg' hvar 0
    rw [Array.eq_one_of_toList hcs] at this
    simpa using this
  have ho := World.ownsMap_of_fit hb F (R := plainElem Tryd.prog 2) (fun x _ z hz => elemAt_plainElem_int Tryd.underlying2 hz)
  refine ⟨bm, es.size, hcell, ?_⟩
  rw [← hx.1] at ho
  exact ho

theorem pow_of_head {W : World} {rest : List (String × DataW Unit)} (h : laidMet Tryd.prog (("internal/strconv.uint64pow10", Rows.laid_internal_strconv_uint64pow10) :: rest) W) : Pow W := by
  have e : (Rows.laid_internal_strconv_uint64pow10 : DataW Unit) = Lib.tabData .u64 Lib.pow10Tab := by kernel_rfl
  rw [e] at h
  exact Lib.tabIs_of_head gPow (by kernel_rfl) Tryd.underlying79 (by kernel_rfl) (by kernel_rfl) (by kernel_rfl) h

def laidL : List (String × DataW Unit) := [("math/bits.deBruijn32tab", Rows.laid_math_bits_deBruijn32tab), ("math/bits.deBruijn64tab", Rows.laid_math_bits_deBruijn64tab), ("internal/strconv.uint64pow10", Rows.laid_internal_strconv_uint64pow10), ("unicode/utf8.acceptRanges", Rows.laid_unicode_utf8_acceptRanges), ("strconv.ErrRange", Rows.laid_strconv_ErrRange), ("strconv.ErrSyntax", Rows.laid_strconv_ErrSyntax), ("forebay/unit.units", Rows.laid_forebay_unit_units), ("unicode/utf8.first", Rows.laid_unicode_utf8_first)]
theorem of_laid {W : World} (h0 : laidMetH Tryd.prog laidL W) : Pow W ∧ Units W := by
  have h : laidMet Tryd.prog laidL W := by
    rw [MakeChecks.laidMetH_plain _ _ _ (by kernel_rfl)] at h0; exact h0
  have h2 := laidMet.tail (laidMet.tail h)
  exact ⟨pow_of_head h2, units_of_head (laidMet.tail (laidMet.tail (laidMet.tail (laidMet.tail h2))))⟩

/-- A world for the witness: the door's own, the pinned table laid. -/
noncomputable def laidWorld (os : Os) : World :=
  { World.doorLaid Tryd.prog 2000 os with heap := (World.doorLaid Tryd.prog 2000 os).heap.modify 4 fun
      | .cells _ t frozen => .cells (Pinned.utf8FirstZ.map fun (z : Nat) => Value.int .u8 (z : Int)).toArray t frozen
      | o => o }
theorem laid_met (os : Os) (args : Array Value) : laidMet Tryd.prog laidL ((laidWorld os).forCall (fun _ _ => 0) ⟨#[], args, []⟩).memory :=
  laidMet_of_run' 8 (by kernel_rfl) (by kernel_rfl)
theorem vars_met (os : Os) (args : Array Value) : ((laidWorld os).forCall (fun _ _ => 0) ⟨#[], args, []⟩).variablesRefB Tryd.checked.prog = true := by kernel_rfl
theorem rest_met (os : Os) (args : Array Value) : (((laidWorld os).forCall (fun _ _ => 0) ⟨#[], args, []⟩).heap.toList.drop Tryd.checked.prog.globals.size).take ((begin Tryd.checked.prog (fun _ _ => 0) default).world.heap.size - Tryd.checked.prog.globals.size) =
      (begin Tryd.checked.prog (fun _ _ => 0) default).world.heap.toList.drop Tryd.checked.prog.globals.size := by kernel_rfl
/-- What a row's post asks, where nothing that stood has turned ('again' is off), the arguments read where they lay. -/
theorem post_of_belowA {H : Type} {enc : TypeId × Value → H} {P : Program} {f : Func} {s : ChangeSpec} {apart fresh handsOn : Bool} {W W' : World} {args : Array Value} {v : Value} {ds gs : List (DataW H)} {before pa pv : List MemPlace}
    (hW : DataW.Whole enc P f.params.toList s.vars apart W args.toList ds gs before)
    (hres : ∀ (b : Nat) (sp : Nat → Bool) (hd : Bool), DataW.TrodAll enc P W' b sp hd f.resultTypes.toList (v.resultList f.resultTypes.size) (s.fn H (ds ++ gs)).results [])
    (hargs : DataW.TrodAll enc P W' 0 (fun b => decide (b < W.heap.size)) true f.params.toList args.toList (s.fn H (ds ++ gs)).args pa)
    (hvars : DataW.TrodVars enc P W' (fun b => decide (b < W.heap.size)) s.vars (s.fn H (ds ++ gs)).vars pv)
    (hps : before = pa ++ pv) (hk : W.keptBut W' (· ∈ before)) : s.post enc P f apart fresh handsOn false W args v W' := by
  refine ⟨ds, gs, before, [], pa, pv, hW, hres _ _ _, hargs, hvars, World.keptBut_mono (fun p hp => ⟨hp, ?_⟩) hk, fun h => by cases h⟩
  rw [hps, List.mem_append] at hp
  exact Or.inr hp

end Go.Proofs.YteamacekhfncnaaDoor
