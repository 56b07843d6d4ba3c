/-
  ImageText: for every string the law answers true, and the string reads as it did. Condition: the listed tables start as the program's text lays them (the card ties them).
-/
import Derived.Test.YtlfjfopjjbbcoaaGreatDoorPA
import Derived.Test.YtlfjfopjjbbcoaaGreatDoorPB
import Derived.Test.YtlfjfopjjbbcoaaGreatDoorPC
import Derived.Test.YtlfjfopjjbbcoaaGreatDoorPD
import Derived.Test.YtlfjfopjjbbcoaaGreatDoorPE
import Derived.Test.YtlfjfopjjbbcoaaGreatDoorPF
import Derived.Test.YtlfjfopjjbbcoaaGreatDoorPG
import Derived.Test.YtlfjfopjjbbcoaaGreatDoorPH
import Derived.Test.YtlfjfopjjbbcoaaGreatDoorPI
import Derived.Test.YtlfjfopjjbbcoaaGreatDoorCards
import Derived.Test.YtlfjfopjjbbcoaaGreatDoorTie
import Derived.ProofKit
import Derived.OpenShut
import Derived.LaidMore
import Derived.Lib.SmallJoins
import Derived.Deep.DeepWitnessRowRef
import Derived.Maps.OwnSet
import Derived.Stop.LaidErr
import Derived.Deep.DeepHandedRow
import Derived.ShutString
set_option linter.all false
set_option autoImplicit true
set_option relaxedAutoImplicit true
namespace Go.Proofs.YtlfjfopjjbbcoaaGreatDoor.image
open Go.ChangeShapes Go.WideShapes Go.ChangeAt Go.RowKit Go.WideMaps Go.Maps Go.Joins
open Go.ChangeMaps (open_string shut_string)
theorem own:ownKnob Tryz.prog.godebug=none:=by kernel_rfl
theorem gUnits:Tryz.prog.globalNamed "forebay/unit.units" = some 3:=by kernel_rfl
theorem tUnits:(Tryz.prog.globals[3]?).map (·.type)=some 331:=by kernel_rfl
theorem gPow:Tryz.prog.globalNamed "internal/strconv.uint64pow10" = some 4:=by kernel_rfl
theorem gPh:Tryz.prog.globalNamed "forebay/phase.words" = some 1:=by kernel_rfl
theorem tPh:(Tryz.prog.globals[1]?).map (·.type)=some 291:=by kernel_rfl
theorem units_of_head {W:World} {rest:List (String × DataW Unit)} (h:laidMet Tryz.prog (("forebay/unit.units",Rows.laid_forebay_unit_units)::rest) W):lA W:=by
 obtain ⟨ps,⟨g',t',cs,fuel,p,q,hg',ht',hvar,hd,_,_⟩,_⟩:=h
 obtain rfl:=Option.some.inj (gUnits.symm.trans hg')
 obtain rfl:=Option.some.inj (tUnits.symm.trans ht')
 rcases WideElems.open_map Tryz.underlying331 hd with ⟨_,hx⟩ | ⟨bm,es,clock,m,rfl,hcs,hb,_,F,hx⟩
 ·simp [Rows.laid_forebay_unit_units] at hx
 simp only [Prod.mk.injEq] at hx
 have hcell:W.cell? ⟨3,0,none⟩=some (.map (some bm)):=by
  have:=World.var?_cell hg' hvar 0
  rw [Array.eq_one_of_toList hcs] at this
  simpa using this
 have ho:=World.ownsMap_of_fit hb F (R:=plainElem Tryz.prog 2) (fun x _ z hz=>elemAt_plainElem_int Tryz.underlying2 hz)
 refine ⟨bm,es.size,hcell,?_⟩
 rw [← hx.1] at ho
 exact ho
theorem pow_of_head {W:World} {rest:List (String × DataW Unit)} (h:laidMet Tryz.prog (("internal/strconv.uint64pow10",Rows.laid_internal_strconv_uint64pow10)::rest) W):QF W:=by
 have e:(Rows.laid_internal_strconv_uint64pow10:DataW Unit)=Lib.tabData .u64 Lib.pow10Tab:=by kernel_rfl
 rw [e] at h
 exact Lib.tabIs_of_head gPow (by kernel_rfl) Tryz.underlying373 (by kernel_rfl) (by kernel_rfl) (by kernel_rfl) h
def laidL:List (String × DataW Unit):=[("forebay/phase.words",Rows.laid_forebay_phase_words),("math/bits.deBruijn32tab",Rows.laid_math_bits_deBruijn32tab),("math/bits.deBruijn64tab",Rows.laid_math_bits_deBruijn64tab),("internal/strconv.uint64pow10",Rows.laid_internal_strconv_uint64pow10),("unicode/utf8.acceptRanges",Rows.laid_unicode_utf8_acceptRanges),("strconv.ErrRange",Rows.laid_strconv_ErrRange),("strconv.ErrSyntax",Rows.laid_strconv_ErrSyntax),("forebay/unit.units",Rows.laid_forebay_unit_units),("unicode/utf8.first",Rows.laid_unicode_utf8_first)]
theorem cells291:Tryz.prog.cellsOf 291=11:=by kernel_rfl
theorem cells9:Tryz.prog.cellsOf 9=1:=by kernel_rfl
theorem cells_of_strs {H:Type} {enc:TypeId × Value→H} {P:Program} {w:World} {base:Nat} {sp:Nat→Bool} {held:Bool} {fuel:Nat} {t e:TypeId} {n:Nat} {cs:List Value} {zs:List (List UInt8)} {p:List MemPlace}
  (ht:P.underlying t=some (.array n e)) (he:P.underlying e=some .string) (hce:P.cellsOf e=1) (hct:P.cellsOf t=n)
  (h:DataW.trod enc P w base sp held fuel t cs=some (.agg (zs.map fun z=>.lit (.string z)),p)):cs=zs.map fun z=>Value.string ⟨z.toArray⟩:=by
 cases fuel with
 | zero=>simp [DataW.trod] at h
 | succ fuel=>
  simp only [DataW.trod,ht,hce,hct,Nat.mul_one] at h
  split at h
  ·rename_i hl
   obtain ⟨xs,hm,hx⟩:=Option.map_eq_some_iff.1 h
   have hxs:xs.map (·.1)=zs.map fun z=>(DataW.lit (.string z):DataW H):=by
    have:=congrArg Prod.fst hx
    simpa using this
   have hxl:xs.length=n:=by simpa using Lib.mapM_length hm
   have hzl:zs.length=n:=by
    have:=congrArg List.length hxs
    simp at this
    omega
   apply List.ext_getElem?
   intro i
   by_cases hi:i<n
   ·obtain ⟨b,hb,hf⟩:=Lib.mapM_at hm i i (by simp [hi])
    obtain ⟨z,hc,rfl,_⟩:=DataW.trod_string he hf
    have h1:cs[i]? = some (.string z):=by
     have:=congrArg (·[0]?) hc
     simpa [List.getElem?_take,List.getElem?_drop] using this
    have h2:(xs.map (·.1))[i]? = some (DataW.lit (.string z.data.toList):DataW H):=by simp [hb]
    rw [hxs] at h2
    simp only [List.getElem?_map,Option.map_eq_some_iff,DataW.lit.injEq,Lit.string.injEq] at h2
    obtain ⟨z',hz',rfl⟩:=h2
    simp [h1,hz']
   ·rw [List.getElem?_eq_none (by omega),List.getElem?_eq_none (by simp;omega)]
  ·cases h
def wordsL:List (List UInt8):=[[],[119,97,105,116],[105,110],[114,101,97,100,121],[114,117,110],[107,101,101,112],[111,117,116],[100,111,110,101],[98,97,100],[103,111,110,101],[108,97,116,101]]
theorem ph_of_head {W:World} {rest:List (String × DataW Unit)} (h:laidMet Tryz.prog (("forebay/phase.words",Rows.laid_forebay_phase_words)::rest) W):nE W:=by
 obtain ⟨ps,⟨g',t',cs,fuel,p,q,hg',ht',hvar,hd,_,_⟩,_⟩:=h
 obtain rfl:=Option.some.inj (gPh.symm.trans hg')
 obtain rfl:=Option.some.inj (tPh.symm.trans ht')
 have hc:=cells_of_strs (zs:=wordsL) Tryz.underlying291 Tryz.underlying9 cells9 cells291 hd
 intro i hi
 rw [World.var?_cell gPh hvar i,show cs[i]? = cs.toList[i]? by simp,hc]
 have:i=0∨i=1∨i=2∨i=3∨i=4∨i=5∨i=6∨i=7∨i=8∨i=9∨i=10:=by omega
 rcases this with rfl | rfl | rfl | rfl | rfl | rfl | rfl | rfl | rfl | rfl | rfl <;> rfl
set_option maxRecDepth 100000 in
theorem cell_str {W:World} {v:Value} (h:Cell.ok Tryz.prog W .any 0 9 v):∃ s,v=.string s:=by
 unfold Cell.ok at h
 rw [Tryz.underlying9] at h
 cases v <;> first | exact ⟨_,rfl⟩ | exact h.elim
set_option maxRecDepth 100000 in
theorem words_of_shaped {W:World} (h:W.ShapedOpen Tryz.prog):∃ K,qQ K W:=by
 obtain ⟨cs,hc,hz,hr⟩:=h.1 0 #[.string ⟨#[]⟩,.string ⟨#[]⟩,.string ⟨#[]⟩,.string ⟨#[]⟩,.string ⟨#[]⟩,.string ⟨#[]⟩,.string ⟨#[]⟩] 267 (Nat.le_of_ble_eq_true (by kernel_rfl)) (by kernel_rfl)
 obtain ⟨ts,hts,_,hcell⟩:=hr (by kernel_rfl)
 rw [show Tryz.prog.cellTypes Tryz.prog.depth 267=some [9,9,9,9,9,9,9] by kernel_rfl] at hts
 cases hts
 have hz7:cs.size=7:=hz
 have hv:∀ i,i<7→∃ s,cs[i]? = some (.string s):=by
  intro i hi
  have hi2:i<cs.size:=by omega
  obtain ⟨u,hu,hok⟩:=hcell i cs[i] (Array.getElem?_eq_getElem hi2)
  have hu9:u=9:=by
   have:i=0∨i=1∨i=2∨i=3∨i=4∨i=5∨i=6:=by omega
   rcases this with rfl | rfl | rfl | rfl | rfl | rfl | rfl <;> simpa using hu.symm
  subst hu9
  obtain ⟨s,hs⟩:=cell_str hok
  exact ⟨s,by rw [Array.getElem?_eq_getElem hi2,hs]⟩
 refine ⟨fun i=>match cs[i]? with | some (.string s)=>s | _=>⟨#[]⟩,fun i hi=>?_⟩
 obtain ⟨s,hs⟩:=hv i hi
 have hB:Bk 0 cs.toList 267 W:=by unfold Bk;rw [hc]
 have:=hB.cell i (v:=.string s) (by rw [Array.getElem?_toList];exact hs)
 rw [this];simp only [hs]
theorem of_laid {W:World} (h0:laidMetH Tryz.prog laidL W) (hsh:W.ShapedOpen Tryz.prog):nE W∧∃ K,rI K W:=by
 have h:laidMet Tryz.prog laidL W:=by
  rw [MakeChecks.laidMetH_plain _ _ _ (by kernel_rfl)] at h0;exact h0
 have h3:=laidMet.tail (laidMet.tail (laidMet.tail h))
 obtain ⟨K,hK⟩:=words_of_shaped hsh
 exact ⟨ph_of_head h,K,pow_of_head h3,units_of_head (laidMet.tail (laidMet.tail (laidMet.tail (laidMet.tail h3)))),hK,Tryz.laysM145.s1_3 W hsh⟩
noncomputable def laidWorld (os:Os):World:=
 { World.doorLaid Tryz.prog 2000 os with heap:=(World.doorLaid Tryz.prog 2000 os).heap.modify 5 fun
   | .cells _ t frozen=>.cells (Pinned.utf8FirstZ.map fun (z:Nat)=>Value.int .u8 (z:Int)).toArray t frozen
   | o=>o }
theorem laid_met (os:Os) (args:Array Value):laidMet Tryz.prog laidL ((laidWorld os).forCall (fun _ _=>0) ⟨#[],args,[]⟩).memory:=
 laidMet_of_run' 8 (by kernel_rfl) (by kernel_rfl)
theorem vars_met (os:Os) (args:Array Value):((laidWorld os).forCall (fun _ _=>0) ⟨#[],args,[]⟩).variablesRefB Tryz.checked.prog=true:=by kernel_rfl
theorem rest_met (os : Os) (args : Array Value) : (((laidWorld os).forCall (fun _ _ => 0) ⟨#[], args, []⟩).heap.toList.drop Tryz.checked.prog.globals.size).take ((begin Tryz.checked.prog (fun _ _ => 0) default).world.heap.size - Tryz.checked.prog.globals.size) =
      (begin Tryz.checked.prog (fun _ _ => 0) default).world.heap.toList.drop Tryz.checked.prog.globals.size := by kernel_rfl
theorem post_of_belowA {H:Type} {enc:TypeId × Value→H} {P:Program} {f:Func} {s:ChangeSpec} {apart fresh handsOn:Bool} {W W':World} {args:Array Value} {v:Value} {ds gs:List (DataW H)} {before pa pv:List MemPlace}
  (hW:DataW.Whole enc P f.params.toList s.vars apart W args.toList ds gs before)
  (hres:∀ (b:Nat) (sp:Nat→Bool) (hd:Bool),DataW.TrodAll enc P W' b sp hd f.resultTypes.toList (v.resultList f.resultTypes.size) (s.fn H (ds++gs)).results [])
  (hargs:DataW.TrodAll enc P W' 0 (fun b=>decide (b<W.heap.size)) true f.params.toList args.toList (s.fn H (ds++gs)).args pa)
  (hvars:DataW.TrodVars enc P W' (fun b=>decide (b<W.heap.size)) s.vars (s.fn H (ds++gs)).vars pv)
  (hps:before=pa++pv) (hk:W.keptBut W' (·∈before)):s.post enc P f apart fresh handsOn false W args v W':=by
 refine ⟨ds,gs,before,[],pa,pv,hW,hres _ _ _,hargs,hvars,World.keptBut_mono (fun p hp=>⟨hp,?_⟩) hk,fun h=>by cases h⟩
 rw [hps,List.mem_append] at hp
 exact Or.inr hp
set_option maxRecDepth 100000 in
theorem contract (H:Type) (enc:TypeId × Value→H) (W:World) (base:Nat) (args:Array Value) (ds gs:List (DataW H)) (before:List MemPlace)
  (hval:∀ (j:Nat) t v,Tryz.f3.params[j]? = some t→args[j]? = some v→Value.okWide Tryz.prog W .any base t v)
  (hW:DataW.Whole enc Tryz.prog Tryz.f3.params.toList Rows.imageTextSpec.vars false W args.toList ds gs before) (hL:laidMetH Tryz.prog Rows.imageTextRow.laid W) (hsh:W.ShapedOpen Tryz.prog):
  Calls Tryz.prog 3 args W fun e W'=>∃ v,e=.returned v∧Rows.imageTextSpec.post enc Tryz.prog Tryz.f3 false true false false W args v W':=by
 have hW':=hW
 obtain ⟨p,q,hA0,hV,rfl,hfz,hnd⟩:=hW
 have hA:DataW.TrodAll enc Tryz.prog W 0 (fun _=>true) true Tryz.f3.params.toList args.toList ds p:=hA0
 rw [Tryz.params3] at hA hval
 obtain ⟨v0,vs0,d0,ds0,p0,q0,hargs,rfl,rfl,h0,r0⟩:=trodAll_cons hA
 obtain ⟨rfl,rfl,rfl⟩:=trodAll_nil r0
 obtain rfl:args=#[v0]:=by cases args;simp_all
 obtain ⟨rfl,rfl⟩:=trodVars_none hV
 obtain ⟨s,rfl,rfl,rfl,hs⟩:=open_string Tryz.underlying9 (hval 0 9 v0 rfl rfl) h0
 clear hA0
 simp only [List.append_nil] at hW'
 obtain ⟨hp,K,hE⟩:=of_laid (show laidMetH Tryz.prog laidL W from hL) hsh
 have hl:Calls Tryz.prog 3 #[.string s] W fun e w'=>∃ v,e=.returned v∧Below W.heap.size W w'∧v=.bool true:=law_3 K s W hE hp
 refine hl.mono fun e W' ⟨v,he,hb,hv⟩=>?_
 subst he
 subst hv
 refine ⟨_,rfl,post_of_belowA (ds:=[.lit (.string s.data.toList)]) (gs:=[]) (pa:=[]) (pv:=[]) (by simpa using hW') (fun _ _ _=>trodAll_cons_mk (shut_bool Tryz.underlying4 _) trodAll_mk0) ?_ rfl (by simp) (hb.frame _)⟩
 exact trodAll_cons_mk (shut_string Tryz.underlying9 hs) trodAll_mk0
theorem reads (os:Os) {H:Type} (enc:TypeId × Value→H):∃ places,DataW.whole enc Tryz.prog ((laidWorld os).forCall (fun _ _=>0) ⟨#[],#[.string ByteArray.empty],[]⟩).memory Tryz.f3.params.toList Rows.imageTextSpec.vars false #[Value.string ByteArray.empty].toList 8=some ([.lit (.string [])],[],places):=
 ⟨[],by kernel_rfl⟩
set_option maxRecDepth 100000 in
theorem lifted (os:Os) (started:os.Started) (H:Type) (enc:TypeId × Value→H) (F:Stop.Interp):
  ReturnsInHanded {} Tryz.checked os 3 .any ((OpenSpec.ofChange Rows.imageTextSpec).preRow enc Tryz.prog Tryz.f3 Rows.imageTextRow.domain false Rows.imageTextRow.laid) (((OpenSpec.ofChange Rows.imageTextSpec).at F).post enc Tryz.prog Tryz.f3 false true false false):=by
 obtain ⟨places,hx⟩:=reads os enc
 refine returnsInHanded_of_row (C:=Tryz.checked) (s:=OpenSpec.ofChange Rows.imageTextSpec) own started (by kernel_rfl) Tryz.func3
  (witness_row_atRef (enc:=enc) (C:=Tryz.checked) false (laidWorld os) #[.string ByteArray.empty] rfl (vars_met os _) (rest_met os _) (by kernel_rfl)
   (OpenSpec.preRow_of_cond 8 hx (by kernel_rfl) (fun k hk=>by cases hk) (by kernel_rfl) (laid_met os _))) ?_
 intro W base args ds gs before hval hW _ _ _ hL hsh _
 exact contract H enc W base args ds gs before hval hW hL hsh
theorem facts:joinedFacts Tryz.pinned.checked.prog 3 Tryz.f3 (OpenSpec.ofChange Rows.imageTextSpec).bare Rows.imageTextRow=true:=by
 have r1:Rows.imageTextRow.wf (OpenSpec.ofChange (OpenSpec.ofChange Rows.imageTextSpec).bare)=true:=by kernel_rfl
 have r4:Tryz.f3.params.all (Tryz.pinned.checked.prog.readableRec ·)=true:=by kernel_rfl
 have r5:namedTie Tryz.pinned.checked.prog Rows.imageTextRow.named (OpenSpec.ofChange Rows.imageTextSpec).bare.vars=true:=by kernel_rfl
 unfold joinedFacts
 rw [r1,laidOut,mapsRowed',r4,r5,stops0,knobs0,inPlace3,unf3,rec3,named3,plainKeys',heard,enters,lifted',make']
 show (_:Bool)=true
 kernel_rfl
theorem said:Rows.ImageTextSaid:=
 OpenClaim.holds_of_cond 3 Tryz.f3 rfl rfl rfl rfl rfl rfl rfl ⟨rfl,rfl,rfl,rfl,rfl⟩ rfl rfl rfl rfl rfl func3 Tryz.func3 facts inst3 wrap3
  (fun os started H enc _ F=>by rw [OpenClaim.pre_eq_preRow];exact lifted os started H enc F)
theorem plain (f:FuncId) (fn:Func) (hf:Tryz.pinned.checked.prog.funcNamed "forebay/forebaylaw29.ImageText" = some f) (hfn:Tryz.pinned.checked.prog.funcs[f]? = some fn):
  true=Tryz.pinned.checked.prog.looks []∧∀ (j:Nat) t,fn.params[j]? = some t→Tryz.pinned.checked.prog.wantsStandIn t=false:=by
 obtain rfl:f=3:=Option.some.inj ((show Tryz.prog.funcNamed "forebay/forebaylaw29.ImageText" = some 3 by kernel_rfl).symm.trans hf) |>.symm
 obtain rfl:fn=Tryz.f3:=(Option.some.inj (Tryz.func3.symm.trans hfn)).symm
 refine ⟨by kernel_rfl,fun j t ht=>?_⟩
 rw [Tryz.params3] at ht
 have hm:=Array.mem_of_getElem? ht
 simp at hm
 subst hm
 exact (show Tryz.prog.wantsStandIn 9=false by kernel_rfl)
theorem card:Rows.ImageTextCardSaid:=
 Claim7.holds_tied_plain_at .later [] _ _ _ _ said (fun _ h=>by cases h) (by kernel_rfl) (fun _ h=>by cases h) imageText_row_tie rfl ⟨rfl,rfl⟩ (by kernel_rfl) rfl plain (by kernel_rfl)
end Go.Proofs.YtlfjfopjjbbcoaaGreatDoor.image
