/-
  A part of the proof of ImageText: walks of its functions and plain laws. Nothing is asked.
-/
import Derived.Test.YtlfjfopjjbbcoaaGreatDoorRows
import Derived.WalkKit
import Derived.WalkSpells
import Derived.WalkLawsBesides
import Derived.Below
import Derived.OwnWalk
import Derived.Lib.Hide
import Derived.IntWalk
import Derived.Orders
import Derived.RangeFuncIn
import Derived.TacticsIn
import Derived.OrdersIn
import Derived.Deep.MidRow
import Derived.Laws.Tables
import Derived.Great.BuildSlice
import Derived.Laws.AppendOwn
import Derived.Laws.AppendOwnNone
import Derived.Laws.MakeOwn
import Derived.Laws.Rows
import Derived.Laws.BytesString
import Derived.Laws.BytesArg
import Derived.Deep.AppendSrc
import Derived.Deep.OwnRows
import Derived.Lib.AppendStr
import Derived.RangeFuncRecord
import Derived.RangeFuncSeq
import Derived.RangeFuncLeaves
import Derived.Maps.OwnIn
import Derived.Outline
import Derived.Laws.Closers25b
import Derived.Laws.Bits64
import Derived.Shelf.SlGeneric
import Derived.Shelf.Strings.Trim
import Derived.Shelf.Strings.SlTrimAscii
import Derived.Shelf.Strings.OnBuilder
import Derived.Shelf.Strings.Prefix
import Derived.Shelf.Strings.Shaped
import Derived.Shelf.Strings.Cut
import Derived.Shelf.Strings.Split
import Derived.Shelf.Strings.SplitShaped
import Derived.Shelf.Small.Strs
import Derived.Shelf.Small.Bits
import Derived.Shelf.LaysM
import Derived.Shelf.LaysC
import Derived.Shelf.Strconv.Itoa4
import Derived.Shelf.Strconv.ParseIntPublic10
import Derived.Shelf.Slices.Turned
import Derived.Ground.SlgnProg
import Derived.Ground.SlgfProg
import Derived.Ground.SlgqProg
import Derived.Ground.SlsfProg
import Derived.Shelf.SlicesE.Compact
import Derived.Shelf.SlicesE.Clone
import Derived.Shelf.SlicesE.IndexFunc
import Derived.Shelf.SlicesQ.IndexFunc
import Derived.Shelf.SlicesQ.Equal
import Derived.Test.YtlfjfopjjbbcoaaGreatDoorProg
import Derived.Lib.ItoaMem
import Derived.Lib.ParseIntB
import Derived.Lib.SlTrimSet
import Derived.Maps.Own
import Derived.Maps.Views
import Derived.Lib.LaidTab
import Derived.ProofKit
set_option linter.all false
set_option autoImplicit true
set_option relaxedAutoImplicit true
namespace Go.Proofs.YtlfjfopjjbbcoaaGreatDoor
open Go.Proofs.Tryz
open Go.RowKit
abbrev aEd:=@if_neg
abbrev aEc:=@if_pos
abbrev aEb:=@Lib.hid
abbrev aD7:=@congrArg
abbrev aD6:=@Eq.trans
abbrev aDz:=@Nat.not_lt
abbrev aDx:=@Calls.mono
abbrev aDw:=@Nat.blt_eq
abbrev aDv:=@Nat.sub_le
abbrev aDt:=@Below.refl
abbrev aDq:=@Nat.le_succ
abbrev aDo:=@Prod.mk.inj
abbrev aDn:=@Nat.add_mul
abbrev aDm:=@Nat.zero_le
abbrev aDl:=@Nat.le_refl
abbrev aDk:=@Nat.ne_of_gt
abbrev aDj:=@Nat.le_of_lt
abbrev aDi:=@Nat.succ_mul
abbrev aDh:=@Sem.run_pure
abbrev aDg:=@Nat.pow_succ
abbrev aDf:=@Addr.add_mid
abbrev aDe:=@Sem.run_bind
abbrev aDd:=@Nat.lt_or_ge
abbrev aDc:=@List.mem_map
abbrev aDb:=@List.map_nil
abbrev aDa:=@Nat.zero_add
abbrev aC8:=@Nat.ne_of_lt
abbrev aC7:=@Nat.le_trans
abbrev aC4:=@CallsDIn.mono
abbrev aC3:=@List.map_cons
abbrev aC2:=@StepsIn.trans
abbrev aC1:=@List.all_cons
abbrev aC0:=@List.mem_cons
abbrev aCz:=@Nat.add_le_add
abbrev aCy:=@Addr.add_zero'
abbrev aCw:=@List.mem_range
abbrev aCv:=@List.mem_append
abbrev aCu:=@Nat.zero_lt_one
abbrev aCt:=@Nat.min_eq_left
abbrev aCs:=@List.all_append
abbrev aCq:=@List.length_set
abbrev aCp:=@Option.some.inj
abbrev aCo:=@List.map_append
abbrev aCn:=@List.mem_filter
abbrev aCm:=@Bool.or_eq_true
abbrev aCl:=@List.append_nil
abbrev aCk:=@List.length_nil
abbrev aCj:=@List.length_map
abbrev aCi:=@Bool.eq_iff_iff
abbrev aCh:=@Array.toList_inj
abbrev aCg:=@Nat.mod_eq_of_lt
abbrev aCe:=@List.map_toArray
abbrev aCd:=@List.drop_length
abbrev aCc:=@List.any_eq_true
abbrev aCb:=@List.take_length
abbrev aCa:=@IntKind.wrap_u64
abbrev aB7:=@List.length_take
abbrev aB6:=@World.size_alloc
abbrev aB5:=@List.length_drop
abbrev aB4:=@Nat.le_add_right
abbrev aB3:=@List.length_cons
abbrev aB2:=@List.all_reverse
abbrev aB1:=@List.all_eq_true
abbrev aB0:=@Bool.and_eq_true
abbrev aBz:=@List.getElem_mem
abbrev aBy:=@List.not_mem_nil
abbrev aBw:=@Result.andThen_ok
abbrev aBv:=@Option.some.injEq
abbrev aBu:=@List.flatMap_cons
abbrev aBt:=@Bool.not_eq_true'
abbrev aBs:=@List.append_assoc
abbrev aBr:=@List.size_toArray
abbrev aBq:=@decide_eq_true_eq
abbrev aBp:=@of_decide_eq_true
abbrev aBo:=@BitVec.toNat_ofNat
abbrev aBn:=@Bool.not_eq_false'
abbrev aBm:=@List.mem_cons_self
abbrev aBl:=@List.filter_append
abbrev aBk:=@Nat.eq_zero_or_pos
abbrev aBj:=@List.mem_singleton
abbrev aBi:=@Nat.lt_of_lt_of_le
abbrev aBh:=@List.length_append
abbrev aBg:=@Nat.lt_of_le_of_lt
abbrev aBf:=@Bool.false_ne_true
abbrev aBe:=@of_decide_eq_false
abbrev aBd:=@List.countP_eq_zero
abbrev aBc:=@ByteArray.toList_eq
abbrev aBb:=@List.flatMap_append
abbrev aBa:=@List.mem_iff_getElem
abbrev aA9:=@List.mem_cons_of_mem
abbrev aA8:=@List.mem_of_mem_take
abbrev aA7:=@Bool.or_eq_false_iff
abbrev aA6:=@Nat.mul_le_mul_right
abbrev aA5:=@Any.strings_Trim_laid
abbrev aA4:=@List.length_filter_le
abbrev aA3:=@List.length_singleton
abbrev aA2:=@List.take_append_drop
abbrev aA1:=@Nat.le_of_ble_eq_true
abbrev aA0:=@ByteArray.size_extract
abbrev aAz:=@List.take_of_length_le
abbrev aAy:=@World.putObj_heap_other
abbrev aAx:=@Option.isSome_iff_exists
abbrev aAw:=@List.drop_eq_getElem_cons
abbrev aAv:=@Any.strings_TrimRight_laid
abbrev aAu:=@Int.tdiv_eq_ediv_of_nonneg
abbrev aAt:=@List.eq_nil_of_length_eq_zero
abbrev aAs:=@List.takeWhile_append_dropWhile
abbrev aAr:=@List.take_succ_eq_append_getElem
abbrev aAq:=@List.set_eq_take_append_cons_drop
abbrev zi (n:Int):Value:=.int .i64 n
abbrev aV:Value:=zi 0
abbrev cP:Value:=.slice none 0 0
def aS (b:Nat) (w w':World):Prop:=w.grownBy w' (some b)
theorem aS.refl (b) (w):aS b w w:=World.grownBy.refl w _
theorem aS.trans (h:aS b w1 w2) (k:aS b w2 w3):aS b w1 w3:=
 ⟨k.os.trans h.os,k.tape.trans h.tape,k.output.trans h.output,aC7 h.size k.size,fun i hi hn=>(k.block i (aBi hi h.size) hn).trans (h.block i hi hn)⟩
theorem aS.alloc (h:aS b w1 w2) (o):aS b w1 (w2.alloc o):=h.trans (World.grownBy_alloc w2 o _)
theorem aS.drew (h:aS b w1 w2):aS b w1 w2.drew:=h.trans ⟨rfl,rfl,rfl,aDl _,fun _ _ _=>rfl⟩
theorem aS.drewN (h:aS b w1 w2) (n):aS b w1 (w2.drewN n):=h.trans ⟨rfl,rfl,rfl,aDl _,fun _ _ _=>rfl⟩
theorem aS.setCell (h:aS b w1 w2) (o:Nat) (v):aS b w1 (w2.setCell ⟨b,o,none⟩ v):=
 h.trans ⟨rfl,rfl,rfl,by simp [World.setCell],fun k _ hn=>Below.heap_setCell _ _ _ _ (fun e=>hn (by rw [e]))⟩
theorem aS.below (h:aS b w1 w2) (k:Below w2.heap.size w2 w3):aS b w1 w3:=
 h.trans ⟨k.os,k.tape,k.output,k.size,fun i hi _=>k.block i hi⟩
theorem aS.cell (h:aS b w1 w2) (hc:w1.cell? a=some v) (hn:a.block≠b):w2.cell? a=some v:=
 World.grownBy.cell h hc (fun e=>hn (by simpa using e))
theorem aS.frozen (h:aS b w1 w2) (hc:a.block<w1.heap.size) (hn:a.block≠b):w2.frozen? a=w1.frozen? a:=
 World.frozen?_of_block (h.block a.block hc (fun e=>hn (by simpa using e)))
theorem aS.toBelow (k:aS b w1 w2) (h:Below B w0 w1) (hB:B<=w1.heap.size) (hb:B<=b):Below B w0 w2:=
 h.trans ⟨k.os,k.tape,k.output,k.size,fun i hi=>k.block i (by omega) (fun e=>by simp at e;omega)⟩
theorem Below.next (h:Below w.heap.size w w1) (k:Below w1.heap.size w1 w2):Below w.heap.size w w2:=h.trans (k.mono h.size)
theorem Below.keep (k:Below w1.heap.size w1 w2) (hc:w1.cell? a=some v):w2.cell? a=some v:=(k.cell (World.block_lt_of_cell? w1 a hc)).trans hc
theorem Below.keepF (k:Below w1.heap.size w1 w2) {f:Bool} (hc:w1.cell? a=some v) (hf:w1.frozen? a=f):w2.frozen? a=f:=(k.frozen (World.block_lt_of_cell? w1 a hc)).trans hf
theorem kE (W:World) (cs:Array Value) (t) (o:Nat) (h:W.heap.size=n):(W.alloc (.cells cs t)).cell? ⟨n,o,none⟩=cs[o]? := by
 subst h
 have:(W.alloc (.cells cs t)).heap[W.heap.size]? = some (.cells cs t):=by show (W.heap.push _)[W.heap.size]? = _;simp
 unfold World.cell?
 rw [this]
 simp
theorem Ji (W:World) (cs:Array Value) (t) (o:Nat) (h:W.heap.size=n):(W.alloc (.cells cs t)).frozen? ⟨n,o,none⟩=false:=by
 subst h
 have:(W.alloc (.cells cs t)).heap[W.heap.size]? = some (.cells cs t):=by show (W.heap.push _)[W.heap.size]? = _;simp
 unfold World.frozen?
 rw [this]
 simp
theorem oG (w:World) (o):(w.alloc o).heap[w.heap.size]? = some o:=by
 show (w.heap.push o)[w.heap.size]? = some o
 simp
theorem Hj (w:World) (o) {k:Nat} (h:w.heap[k]? = some x):(w.alloc o).heap[k]? = some x:=
 (Below.heap_alloc w o k (Array.getElem?_eq_some_iff.1 h).1).trans h
theorem xK {w:World} (h:w.cell? a=some v):(w.alloc o).cell? a=some v:=by
 rw [World.cell?_alloc_lt _ _ _ (World.block_lt_of_cell? w a h)];exact h
abbrev uC:List Value:=[aV,cP,aV,aV,aV,aV,aV,aV,aV,aV,aV,aV,aV,aV,cP,cP,cP,cP,cP,cP,cP,cP,.bool false]
abbrev Ij:List Value:=[.string (⟨#[]⟩),aV,aV,aV,cP,aV,aV,aV,.string (⟨#[]⟩),cP,cP,cP]
abbrev ZA:List Value:=[aV,.string (⟨#[]⟩),aV,aV,aV,cP,aV,aV,aV,.string (⟨#[]⟩),cP,cP,cP,.int .u8 (0),.bool false,.bool false,aV,aV,aV]
abbrev RV:List Value:=[aV,cP,aV,aV,aV,aV,aV,aV,aV,aV,aV,aV]
abbrev RS:List Value:=[aV,aV,aV,.bool false,.bool false,cP,cP]
abbrev zl6:List Value:=[aV,.string (⟨#[]⟩),.string (⟨#[]⟩),.string (⟨#[]⟩),.bool false,cP,cP]
abbrev zl7:List Value:=[.string (⟨#[]⟩),aV,aV,aV,.bool false]
abbrev aDu:=@Below.next
abbrev aDy:=@Below.keep
end Go.Proofs.YtlfjfopjjbbcoaaGreatDoor
namespace Go
section
variable {P:Program} {ops:Array Oper} {Q:Exit->Act->World->Prop} {md:Region.Mode}
theorem oD {listed:Array Bool}:i∈Region.ready md ops listed ↔
  i<ops.size/\listed.getD i true=false/\∃ o,ops[i]? = some o/\∀ e∈o.after,Region.binds md e=true->listed.getD e.on false=true:=by
 unfold Region.ready
 rw [List.mem_filter,List.mem_range]
 constructor
 ·rintro ⟨hi,h⟩
  rw [Bool.and_eq_true] at h
  obtain ⟨h1,h2⟩:=h
  refine ⟨hi,by simpa using h1,?_⟩
  cases ho:ops[i]? with
  | none=>rw [ho] at h2;simp at h2
  | some o=>
   rw [ho] at h2
   refine ⟨o,rfl,fun e he hb=>?_⟩
   simp only [Option.map_some,Option.getD_some,Array.all_eq_true'] at h2
   have:=h2 e he
   rw [hb] at this
   simpa using this
 ·rintro ⟨hi,h1,o,ho,h2⟩
  refine ⟨hi,?_⟩
  rw [Bool.and_eq_true]
  refine ⟨by simpa using h1,?_⟩
  rw [ho]
  simp only [Option.map_some,Option.getD_some,Array.all_eq_true']
  intro e he
  cases hb:Region.binds md e with
  | false=>simp
  | true=>simpa using h2 e he hb
def oE (l:Array Bool):Nat:=l.toList.count false
theorem nO {l:Array Bool} (h:l.getD i true=false):oE (l.setIfInBounds i true)+1=oE l:=by
 obtain ⟨l⟩:=l
 unfold oE
 have hi:i<l.length:=by
  rcases Nat.lt_or_ge i l.length with h' | h'
  ·exact h'
  ·simp [h'] at h
 have hl:l[i]=false:=by simpa [hi] using h
 simp only [List.setIfInBounds_toArray]
 clear h
 induction l generalizing i with
 | nil=>simp at hi
 | cons x xs ih=>
  cases i with
  | zero=>simp at hl;subst hl;simp
  | succ j=>
   simp at hi hl
   have:=ih hi hl
   simp only [List.set_cons_succ,List.count_cons]
   omega
def Region.earlier (md:Region.Mode) (ops:Array Oper):Bool:=
 (List.range ops.size).all fun i=>((ops[i]?).map (·.after.all fun e=>!Region.binds md e||decide (e.on<i))).getD true
theorem Region.earlier_spec (h:Region.earlier md ops=true) {i:Nat} (ho:ops[i]? = some o):∀ e∈o.after,Region.binds md e=true->e.on<i:=by
 intro e he hb
 have hi:i<ops.size:=(Array.getElem?_eq_some_iff.1 ho).1
 have h1:=List.all_eq_true.1 h i (List.mem_range.2 hi)
 rw [ho] at h1
 simp only [Option.map_some,Option.getD_some,Array.all_eq_true'] at h1
 have:=h1 e he
 rw [hb] at this
 simpa using this
theorem rC (he:Region.earlier md ops=true) {listed:Array Bool} (hs:listed.size=ops.size) (hr:Region.ready md ops listed=[]):∀ i,i<ops.size->listed.getD i false=true:=by
 intro i
 induction i using Nat.strongRecOn with
 | ind i ih=>
  intro hi
  cases hc:listed.getD i true with
  | true=>
   have:i<listed.size:=by omega
   simpa [this] using hc
  | false=>
   exfalso
   have:i∈Region.ready md ops listed:=by
    refine oD.2 ⟨hi,hc,ops[i],Array.getElem?_eq_getElem hi,fun e hem hb=>?_⟩
    have hlt:=Region.earlier_spec he (Array.getElem?_eq_getElem hi) e hem hb
    exact ih e.on hlt (by omega)
   rw [hr] at this
   cases this
theorem MH {Inv:Array Bool->Act->World->Prop} (he:Region.earlier md ops=true)
  (jS:∀ (listed:Array Bool) a w i o,listed.size=ops.size->Inv listed a w->ops[i]? = some o->listed.getD i true=false->(∀ e∈o.after,Region.binds md e=true->listed.getD e.on false=true) ->
   wpOp P ops Q i (Inv (listed.setIfInBounds i true)) a w)
  (hend:∀ (listed:Array Bool) a w,(∀ i,i<ops.size->listed.getD i false=true)->Inv listed a w->Q .normal a w):
  ∀ (fuel:Nat) (listed:Array Bool) (a:Act) (w:World),listed.size=ops.size->oE listed<=fuel->Inv listed a w->wpAny P md ops Q fuel listed a w:=by
 intro fuel
 induction fuel with
 | zero=>
  intro listed a w hs hu hI
  have hr:Region.ready md ops listed=[]:=by
   cases hc:Region.ready md ops listed with
   | nil=>rfl
   | cons i r=>
    have hm:i∈Region.ready md ops listed:=by rw [hc];simp
    have:=nO (oD.1 hm).2.1
    omega
  exact ⟨hr,hend _ _ _ (rC he hs hr) hI⟩
 | succ fuel ih=>
  intro listed a w hs hu hI
  refine ⟨fun hr=>hend _ _ _ (rC he hs hr) hI,fun i hi=>?_⟩
  obtain ⟨_,h1,o,ho,h2⟩:=oD.1 hi
  refine wpOp_mono (fun a' w' h=>ih _ a' w' (by simpa using hs) ?_ h) (jS listed a w i o hs hI ho h1 h2)
  have:=nO h1
  omega
theorem CV {id:Nat} {a:Act} {w:World} {Inv:Array Bool->Act->World->Prop} (hm:P.follows .mixedOrders=true) (he:Region.earlier .any ops=true)
  (h0:Inv (Array.replicate ops.size false) a { w with drawn:=w.drawn+1 })
  (jS:∀ (listed:Array Bool) a w i o,listed.size=ops.size->Inv listed a w->ops[i]? = some o->listed.getD i true=false->(∀ e∈o.after,Region.binds .any e=true->listed.getD e.on false=true) ->
   wpOp P ops Q i (Inv (listed.setIfInBounds i true)) a w)
  (hend:∀ (listed:Array Bool) a w,(∀ i,i<ops.size->listed.getD i false=true)->Inv listed a w->Q .normal a w):(Code.region id ops true).wp P Q a w:=
 wp_region_any hm (MH he jS hend ops.size _ a _ (by simp) (by simp [oE]) h0)
end
end Go
namespace Go.Proofs.YtlfjfopjjbbcoaaGreatDoor
open Go.Proofs.Tryz
open Go.RowKit
def FR (r:Option Nat):Fence:={ fn:=fun _=>True,depth:=none,alive:=false,round:=r }
def Wp (r:Option Nat) (c:Code) (Q:Exit->Act->World->Prop) (a:Act) (w:World):Prop:=c.wpIn (FR r) 0 prog Q a w
def dY (r:Option Nat) (ops:Array Oper) (Q:Exit->Act->World->Prop) (l:List Oper) (a:Act) (w:World):Prop:=wpListIn (FR r) 0 prog ops Q l a w
def Ow (r:Option Nat) (o:Oper) (a:Act) (w:World) (K:Act->World->Prop) (Q:Exit->Act->World->Prop):Prop:=o.wpIn (FR r) 0 prog a w K Q
theorem rD (r) (n):(FR r).room n:=fun d h=>by cases h
theorem Bo {args:Array Value} {R:Ending->World->Prop}:CallsIn (FR r) m prog f args w R↔Calls prog f args w R:=by
 have:CallsIn (FR r) m prog f args w R↔CallsIn Fence.wide m prog f args w R:=Iff.rfl
 rw [this]
 exact callsIn_wide
section
variable {r:Option Nat} {ops:Array Oper} {Q:Exit->Act->World->Prop} {a:Act} {w w':World} {rest l:List Oper} {o:Oper} {K:Act->World->Prop} {v:Value} {x y:Code}
theorem Hk {ρ:Operand->Value} (h:(execOp ρ o).run prog w=.ok (.value v) w'):(o.semAt r ρ).run prog w=.ok (.value v) w':=by
 cases r with
 | none=>exact h
 | some l=>
  by_cases hd:∃ c,o.op=.defer c
  ·obtain ⟨c,hc⟩:=hd
   exfalso
   unfold execOp at h
   rw [hc] at h
   simp only [aDe] at h
   cases hr:(resolve ρ c o.type).run prog w with
   | ok d w2=>rw [hr] at h;simp at h
   | halt x w2=>rw [hr] at h;simp at h
  ·rw [Oper.semAt_eq _ _ _ (fun c hc=>hd ⟨c,hc⟩)];exact h
theorem GA {ρ:Operand->Value} {args:Array Value} (h:(execOp ρ o).run prog w=.ok (.enter f args) w'):(o.semAt r ρ).run prog w=.ok (.enter f args) w':=by
 cases r with
 | none=>exact h
 | some l=>
  by_cases hd:∃ c,o.op=.defer c
  ·obtain ⟨c,hc⟩:=hd
   exfalso
   unfold execOp at h
   rw [hc] at h
   simp only [aDe] at h
   cases hr:(resolve ρ c o.type).run prog w with
   | ok d w2=>rw [hr] at h;simp at h
   | halt x w2=>rw [hr] at h;simp at h
  ·rw [Oper.semAt_eq _ _ _ (fun c hc=>hd ⟨c,hc⟩)];exact h
theorem Id {ρ:Operand->Value} (h:(execOp ρ o).run prog w=.ok .skip w'):(o.semAt r ρ).run prog w=.ok .skip w':=by
 cases r with
 | none=>exact h
 | some l=>
  by_cases hd:∃ c,o.op=.defer c
  ·obtain ⟨c,hc⟩:=hd
   exfalso
   unfold execOp at h
   rw [hc] at h
   simp only [aDe] at h
   cases hr:(resolve ρ c o.type).run prog w with
   | ok d w2=>rw [hr] at h;simp at h
   | halt x w2=>rw [hr] at h;simp at h
  ·rw [Oper.semAt_eq _ _ _ (fun c hc=>hd ⟨c,hc⟩)];exact h
theorem iC (hr:(execOp a.eval o).run prog w=.ok (.value v) w') (h:K (a.put o.dst v) w'):Ow r o a w K Q:=by
 refine ⟨fun _ _=>trivial,?_⟩
 show Oper.uponIn (FR r) 0 prog o a K Q ((o.semAt r a.eval).run prog w)
 rw [Hk hr];exact h
theorem qK (hr:(execOp a.eval o).run prog w=.ok .skip w') (h:K (a.put o.dst undef) w'):Ow r o a w K Q:=by
 refine ⟨fun _ _=>trivial,?_⟩
 show Oper.uponIn (FR r) 0 prog o a K Q ((o.semAt r a.eval).run prog w)
 rw [Id hr];exact h
def upC (o:Oper) (a:Act) (K:Act->World->Prop) (Q:Exit->Act->World->Prop):Ending->World->Prop
 | .returned v,w''=>K (a.put o.dst v) w''
 | .panicked chain,w''=>Q (.panic chain) a w''
 | .outgrown,_=>LetsOut Q
theorem sM {args:Array Value} (hr:(execOp a.eval o).run prog w=.ok (.enter f args) w') (h:Calls prog f args w' (upC o a K Q)):Ow r o a w K Q:=by
 refine ⟨fun _ _=>trivial,?_⟩
 show Oper.uponIn (FR r) 0 prog o a K Q ((o.semAt r a.eval).run prog w)
 rw [GA hr]
 refine ⟨fun h=>(by cases h),Bo.2 (h.mono ?_)⟩
 intro e w'' he
 cases e <;> exact he
theorem QM (hd:∀ c,o.op≠.defer c) (hr:(execOp a.eval o).run prog w=.halt (.panic v) w') (h:Q (.panic [{ v,recovered:=false }]) a w'):Ow r o a w K Q:=by
 refine ⟨fun _ _=>trivial,?_⟩
 show Oper.uponIn (FR r) 0 prog o a K Q ((o.semAt r a.eval).run prog w)
 rw [Oper.semAt_eq _ _ _ hd,hr];exact h
theorem tI (h:∀ K:Act->World->Prop,(∀ a w,dY r ops Q rest a w->K a w)->if Region.wanted o (yielded ops a.tmps) then Ow r o a w K Q else K (a.put o.dst undef) w):dY r ops Q (o::rest) a w:=by
 refine wpListIn_step fun K hK=>?_
 have:=h K hK
 split
 ·rename_i hw;rw [aEc hw] at this;exact this
 ·rename_i hw;rw [aEd hw] at this;exact ⟨fun _ _=>trivial,this⟩
theorem eM (hg:o.guard=none) (h:∀ K:Act->World->Prop,(∀ a w,dY r ops Q rest a w->K a w)->Ow r o a w K Q):dY r ops Q (o::rest) a w:=
 tI fun K hK=>by simp only [Region.wanted,hg,if_true];exact h K hK
theorem yX {id:Nat} (h:dY r l.toArray Q l a w):Wp r (Code.region id l.toArray false) Q a w:=wpIn_region_lit h
theorem aF (h:Wp r x (Exit.then (Wp r y Q) Q) a w):Wp r (Code.seq x y) Q a w:=wpIn_seq h
theorem EK {t:Bool} (hc:a.eval c=.bool t) (ht:t=true->Wp r x Q a w) (hf:t=false->Wp r y Q a w):Wp r (Code.cond c x y) Q a w:=wpIn_cond_split hc ht hf
theorem Hf (hc:a.eval c=.bool true) (h:Wp r x Q a w):Wp r (Code.cond c x y) Q a w:=wpIn_cond_true hc h
theorem Eh (hc:a.eval c=.bool false) (h:Wp r y Q a w):Wp r (Code.cond c x y) Q a w:=wpIn_cond_false hc h
theorem aG (h:Q .normal a w):Wp r Code.skip Q a w:=wpIn_skip h
theorem cI {id:Nat} (h:Q (.exit id) a w):Wp r (Code.exit id) Q a w:=wpIn_exit h
theorem aE (h:Q .ret a w):Wp r Code.ret Q a w:=wpIn_ret h
theorem aO {id:Nat} (h:Wp r x (Exit.inBlock id Q) a w):Wp r (Code.block id x) Q a w:=wpIn_block h
theorem vH {Q':Exit->Act->World->Prop} (h:Wp r x Q a w) (hq:∀ e a w,Q e a w->Q' e a w):Wp r x Q' a w:=wpIn_mono h hq
theorem Sa {args:Array Value} {R:Ending->World->Prop} (hf:prog.funcs[f]? = some fn) (hb:fn.body=some c)
  (h:Wp none c (bodyPost prog fn R) { tmps:=args++Array.replicate (fn.ntmps - args.size) undef,defers:=[] } w):Calls prog f args w R:=
 Bo.1 (callsIn_of_wp hf hb trivial h rfl)
theorem GW {Inv:Array Bool->Act->World->Prop} (he:Region.earlier .any ops=true)
  (jS:∀ (listed:Array Bool) a w i o,listed.size=ops.size->Inv listed a w->ops[i]? = some o->listed.getD i true=false->(∀ e∈o.after,Region.binds .any e=true->listed.getD e.on false=true) ->
   if Region.wanted o (yielded ops a.tmps) then Ow r o a w (Inv (listed.setIfInBounds i true)) Q else Inv (listed.setIfInBounds i true) (a.put o.dst undef) w)
  (hend:∀ (listed:Array Bool) a w,(∀ i,i<ops.size->listed.getD i false=true)->Inv listed a w->Q .normal a w):
  ∀ (fuel:Nat) (listed:Array Bool) (a:Act) (w:World),listed.size=ops.size->oE listed<=fuel->Inv listed a w->wpAnyIn (FR r) 0 prog .any ops Q fuel listed a w:=by
 intro fuel
 induction fuel with
 | zero=>
  intro listed a w hs hu hI
  have hr:Region.ready .any ops listed=[]:=by
   cases hc:Region.ready .any ops listed with
   | nil=>rfl
   | cons i r=>
    have hm:i∈Region.ready .any ops listed:=by rw [hc];simp
    have:=nO (oD.1 hm).2.1
    omega
  exact ⟨hr,hend _ _ _ (rC he hs hr) hI⟩
 | succ fuel ih=>
  intro listed a w hs hu hI
  refine ⟨fun hr=>hend _ _ _ (rC he hs hr) hI,fun i hi=>?_⟩
  obtain ⟨_,h1,o,ho,h2⟩:=oD.1 hi
  refine wpOpIn_mono (fun a' w' h=>ih _ a' w' (by simpa using hs) ?_ h) (K:=Inv (listed.setIfInBounds i true)) ?_
  ·have:=nO h1
   omega
  ·have:=jS listed a w i o hs hI ho h1 h2
   unfold wpOpIn
   rw [ho]
   simp only
   split
   ·rename_i hw;rw [aEc hw] at this;exact this
   ·rename_i hw;rw [aEd hw] at this;exact ⟨fun _ _=>trivial,this⟩
theorem qP {id:Nat} {Inv:Array Bool->Act->World->Prop} (he:Region.earlier .any ops=true)
  (h0:Inv (Array.replicate ops.size false) a { w with drawn:=w.drawn+1 })
  (jS:∀ (listed:Array Bool) a w i o,listed.size=ops.size->Inv listed a w->ops[i]? = some o->listed.getD i true=false->(∀ e∈o.after,Region.binds .any e=true->listed.getD e.on false=true) ->
   if Region.wanted o (yielded ops a.tmps) then Ow r o a w (Inv (listed.setIfInBounds i true)) Q else Inv (listed.setIfInBounds i true) (a.put o.dst undef) w)
  (hend:∀ (listed:Array Bool) a w,(∀ i,i<ops.size->listed.getD i false=true)->Inv listed a w->Q .normal a w):Wp r (Code.region id ops true) Q a w:=
 wpIn_region_any (by kernel_rfl) (GW he jS hend ops.size _ a _ (by simp) (by simp [oE]) h0)
end
def up (g:Nat->Value) (d:Nat) (v:Value):Nat->Value:=fun i=>bif Nat.beq i d then v else g i
def fr (n:Nat) (ds:List Deferred) (g:Nat->Value):Act:={ tmps:=((List.range n).map g).toArray,defers:=ds }
def ev (n:Nat) (g:Nat->Value):Operand->Value
 | .tmp i=>bif Nat.blt i n then g i else undef
 | .const v=>v
 | .global b=>.pointer (some ⟨b,0,none⟩)
 | .func f=>.func (.func f) #[] #[]
def rK (args:List Value):Nat->Value:=fun i=>args.getD i undef
abbrev pt (b o:Nat):Value:=.pointer (some ⟨b,o,none⟩)
theorem Bi (g:Nat->Value) (d) (v):up g d v d=v:=by simp [up]
theorem VL (g:Nat->Value) (v) (h:i≠d):up g d v i=g i:=by
 have:Nat.beq i d=false:=by
  cases hc:Nat.beq i d
  ·rfl
  ·exact absurd (Nat.eq_of_beq_eq_true hc) h
 simp [up,this]
theorem NY (h:¬ i<n):Nat.blt i n=false:=by
 cases hc:Nat.blt i n
 ·rfl
 ·rw [aDw] at hc;exact absurd hc h
theorem Fc (n) (ds) (g:Nat->Value) (i):(fr n ds g).tmps[i]? = if i<n then some (g i) else none:=by
 unfold fr
 by_cases h:i<n <;> simp [h,List.getElem?_range]
theorem bV (n) (ds) (g:Nat->Value):(fr n ds g).eval=ev n g:=by
 funext x
 cases x with
 | tmp i=>
  have h:=Fc n ds g i
  show (fr n ds g).tmps.getD i undef=_
  rw [Array.getD_eq_getD_getElem?,h]
  by_cases hi:i<n
  ·have:Nat.blt i n=true:=by simpa [aDw] using hi
   simp [ev,hi,this]
  ·have:=NY hi
   simp [ev,hi,this]
 | const v=>rfl
 | «global» b=>rfl
 | func f=>rfl
theorem fF (n) (ds) (g:Nat->Value) (d) (v):(fr n ds g).put (some d) v=fr n ds (up g d v):=by
 unfold Act.put fr
 simp only [Act.mk.injEq,and_true]
 apply Array.ext_getElem?
 intro i
 simp only [Array.getElem?_setIfInBounds,aBr,aCj,List.length_range,List.getElem?_toArray,List.getElem?_map]
 by_cases e:d=i
 ·subst e
  by_cases hi:d<n <;> simp [hi,List.getElem?_range,Bi]
 ·by_cases hi:i<n <;> simp [hi,e,List.getElem?_range,VL _ _ (Ne.symm e)]
theorem aJ {R:Ending->World->Prop} (hf:prog.funcs[f]? = some fn) (hb:fn.body=some c) (hn:fn.ntmps=n) (hs:args.length<=n)
  (h:Wp none c (bodyPost prog fn R) (fr n [] (rK args)) w):Calls prog f args.toArray w R:=by
 refine Sa hf hb ?_
 have e:({ tmps:=args.toArray++Array.replicate (fn.ntmps - args.toArray.size) undef,defers:=[] }:Act)=fr n [] (rK args):=by
  unfold fr
  simp only [Act.mk.injEq,and_true]
  apply Array.ext_getElem?
  intro i
  rw [hn]
  by_cases h1:i<args.length
  ·simp [Array.getElem?_append,h1,rK,List.getElem?_range,aBi h1 hs]
  ·by_cases h2:i<n
   ·have:i - args.length<n - args.length:=by omega
    simp [Array.getElem?_append,h1,h2,this,rK,List.getElem?_range,Array.getElem?_replicate]
   ·have:¬ i - args.length<n - args.length:=by omega
    simp [Array.getElem?_append,h1,h2,this,List.getElem?_range,Array.getElem?_replicate]
 rw [e]
 exact h
def aL (n:Nat) (g:Nat->Value) (o:Oper) (w:World) (v:Value):Prop:=(execOp (ev n g) o).run prog w=.ok (.value v) w
section
variable {r:Option Nat} {n:Nat} {ds:List Deferred} {g:Nat->Value} {w:World} {Q:Exit->Act->World->Prop} {l L:List Oper} {ops:Array Oper} {op:Op} {ty:TypeId} {pos:String} {aft:Array Edge} {d:Tmp} {v:Value}
theorem sq (hr:aL n g ⟨some d,op,ty,pos,aft,none⟩ w v) (h:dY r ops Q l (fr n ds (up g d v)) w):dY r ops Q (⟨some d,op,ty,pos,aft,none⟩::l) (fr n ds g) w:=by
 refine eM rfl fun K hK =>iC (by rw [bV];exact hr) ?_
 rw [fF]
 exact hK _ _ h
theorem tQ {k j:Nat} {b b':Bool} (ho:o.guard=some (k,b)) (hk:(L[k]?).bind (·.dst)=some j) (hj:ev n g (.tmp j)=.bool b'):Region.wanted o (yielded L.toArray (fr n ds g).tmps)=(b' == b):=by
 unfold Region.wanted yielded
 rw [ho]
 have hk':(L.toArray[k]?).bind (·.dst)=some j:=by simpa using hk
 simp only [hk',Option.bind_some,Fc]
 by_cases hi:j<n
 ·have hb:Nat.blt j n=true:=by simpa [aDw] using hi
  simp only [ev,hb,cond_true] at hj
  rw [aEc hi,hj]
  cases b <;> cases b' <;> rfl
 ·have hb:=NY hi
  simp [ev,hb,undef] at hj
theorem sg {k j:Nat} {b:Bool} (hk:(L[k]?).bind (·.dst)=some j) (hj:ev n g (.tmp j)=.bool b) (hr:aL n g ⟨some d,op,ty,pos,aft,some (k,b)⟩ w v) (h:dY r L.toArray Q l (fr n ds (up g d v)) w):
  dY r L.toArray Q (⟨some d,op,ty,pos,aft,some (k,b)⟩::l) (fr n ds g) w:=by
 refine tI fun K hK=>?_
 rw [tQ rfl hk hj]
 simp only [beq_self_eq_true,if_true]
 refine iC (by rw [bV];exact hr) ?_
 rw [fF]
 exact hK _ _ h
theorem sn {k j:Nat} {b b':Bool} (hk:(L[k]?).bind (·.dst)=some j) (hj:ev n g (.tmp j)=.bool b') (hb:(b' == b)=false) (h:dY r L.toArray Q l (fr n ds (up g d undef)) w):
  dY r L.toArray Q (⟨some d,op,ty,pos,aft,some (k,b)⟩::l) (fr n ds g) w:=by
 refine tI fun K hK=>?_
 rw [tQ rfl hk hj,hb,fF]
 exact hK _ _ h
theorem rg {id:Nat} {y:Code} (h:dY r l.toArray (Exit.then (Wp r y Q) Q) l (fr n ds g) w):Wp r ((Code.region id l.toArray false).seq y) Q (fr n ds g) w:=aF (yX h)
theorem eO {id:Nat} (h:dY r l.toArray Q l (fr n ds g) w):Wp r (Code.region id l.toArray false) Q (fr n ds g) w:=yX h
theorem nx (h:Wp r y Q (fr n ds g) w):dY r ops (Exit.then (Wp r y Q) Q) [] (fr n ds g) w:=h
theorem nl (h:Q .normal (fr n ds g) w):dY r ops Q [] (fr n ds g) w:=h
theorem cd {t:Bool} (hc:ev n g c=.bool t) (h1:t=true->Wp r x Q (fr n ds g) w) (h0:t=false->Wp r y Q (fr n ds g) w):Wp r (Code.cond c x y) Q (fr n ds g) w:=
 EK (by rw [bV];exact hc) h1 h0
theorem Ns (hc:ev n g c=.bool true) (h1:Wp r x Q (fr n ds g) w):Wp r (Code.cond c x y) Q (fr n ds g) w:=Hf (by rw [bV];exact hc) h1
theorem rM (hc:ev n g c=.bool false) (h0:Wp r y Q (fr n ds g) w):Wp r (Code.cond c x y) Q (fr n ds g) w:=Eh (by rw [bV];exact hc) h0
theorem fO {R:Ending->World->Prop} {t:Tmp} (hr:fn.results=#[.tmp t]) (h:R (.returned (ev n g (.tmp t))) w):bodyPost prog fn R .ret (fr n [] g) w:=by
 refine bodyPost_ret (results_tmp hr _ _ _) rfl ?_
 have:(fr n [] g).tmps.getD t undef=ev n g (.tmp t):=congrFun (bV n [] g) (.tmp t)
 rw [this];exact h
theorem wJ {R:Ending->World->Prop} {t u:Tmp} (hr:fn.results=#[.tmp t,.tmp u]) (h:R (.returned (.tuple #[ev n g (.tmp t),ev n g (.tmp u)])) w):bodyPost prog fn R .ret (fr n [] g) w:=by
 refine bodyPost_ret (results_tmp2 hr _ _ _) rfl ?_
 have h1:(fr n [] g).tmps.getD t undef=ev n g (.tmp t):=congrFun (bV n [] g) (.tmp t)
 have h2:(fr n [] g).tmps.getD u undef=ev n g (.tmp u):=congrFun (bV n [] g) (.tmp u)
 rw [h1,h2];exact h
theorem fV {R:Ending->World->Prop} (hr:fn.results=#[]) (h:R (.returned (.tuple #[])) w):bodyPost prog fn R .normal (fr n [] g) w:=
 bodyPost_end (results_none hr _ _ _) rfl h
theorem uS {R:Ending->World->Prop} (hr:fn.results=#[]) (h:R (.returned (.tuple #[])) w):bodyPost prog fn R .ret (fr n [] g) w:=
 bodyPost_ret (results_none hr _ _ _) rfl h
def Oi (n:Nat) (ds:List Deferred) (I:Nat->(Nat->Value)->World->Prop) (m:Nat):Act->World->Prop:=fun a w=>∃ m' g',m'<m/\a=fr n ds g'/\I m' g' w
theorem fC {I:Nat->(Nat->Value)->World->Prop} (hm:m'<m) (h:I m' g w):Exit.then (Oi n ds I m) Q .normal (fr n ds g) w:=⟨m',g,hm,rfl,h⟩
theorem lp (I:Nat->(Nat->Value)->World->Prop) (m) (h0:I m g w) (round:∀ m g w,I m g w->Wp r c (Exit.then (Oi n ds I m) Q) (fr n ds g) w):Wp r (Code.loop c) Q (fr n ds g) w:=by
 intro b k cs hro hb hr
 have key:∀ m g w,I m g w->∃ e a' w',Q e a' w'/\ArrivesIn (Machine.fenced prog (FR r)) prog (lone (b.atR (fr n ds g) (.code c::.inLoop c::k)) cs w) b k cs e a' w':=by
  intro m
  induction m using Nat.strongRecOn with
  | _ m ih=>
   intro g w hI
   obtain ⟨e,a₁,w₁,hq,harr⟩:=round m g w hI b (.inLoop c::k) cs hro hb hr
   cases e with
   | normal=>
    obtain ⟨m',g',hlt,rfl,hI'⟩:=hq
    obtain ⟨e₂,a₂,w₂,hq₂,harr₂⟩:=ih m' hlt g' w₁ hI'
    exact ⟨e₂,a₂,w₂,hq₂,.of_steps (aC2 harr (.one (fenced_calm hb hr rfl) stepR_inLoop)) harr₂⟩
   | exit id=>exact ⟨_,a₁,w₁,hq,.pass (x:=.inLoop c) rfl (fun _ _=>.inl (by simp)) harr⟩
   | goto l=>exact ⟨_,a₁,w₁,hq,.pass (x:=.inLoop c) rfl (fun _ _=>.inl (by simp)) harr⟩
   | ret=>exact ⟨_,a₁,w₁,hq,.pass (x:=.inLoop c) rfl (fun _ _=>.inl (by simp)) harr⟩
   | panic ch=>exact ⟨_,a₁,w₁,hq,.pass (x:=.inLoop c) rfl (fun _ _=>.inl (by simp)) harr⟩
   | outgrown=>exact ⟨_,a₁,w₁,hq,.pass (x:=.inLoop c) rfl (fun _ _=>.inl (by simp)) harr⟩
 obtain ⟨e,a',w',hq,harr⟩:=key m g w h0
 exact ⟨e,a',w',hq,.of_steps (.one (fenced_calm hb hr rfl) stepR_loop) harr⟩
end
section
variable {n:Nat} {g:Nat->Value} {w:World} {dd:Option Tmp} {ty:TypeId} {pos:String} {aft:Array Edge} {gd:Option (Nat × Bool)} {x y z:Operand} {v:Value}
theorem aT: aL n g ⟨dd,.move x,ty,pos,aft,gd⟩ w (ev n g x):=rfl
theorem kC: aL n g ⟨dd,.assign x,ty,pos,aft,gd⟩ w (ev n g x):=rfl
theorem uK (hc:ev n g x=.bool true):aL n g ⟨dd,.pick x y z,ty,pos,aft,gd⟩ w (ev n g y):=by unfold aL execOp;simp [hc,asBool]
theorem DE (hc:ev n g x=.bool false):aL n g ⟨dd,.pick x y z,ty,pos,aft,gd⟩ w (ev n g z):=by unfold aL execOp;simp [hc,asBool]
theorem dF (hx:ev n g x=.pointer (some a)):aL n g ⟨dd,.nilCheck x,ty,pos,aft,gd⟩ w (.pointer (some a)):=by unfold aL execOp;simp [hx]
theorem r_mf {xs:List Operand}:aL n g ⟨dd,.makeFunc (.func f) #[] xs.toArray,ty,pos,aft,gd⟩ w (.func (.func f) #[] (xs.map (ev n g)).toArray):=by unfold aL execOp;simp [Instr.makeFunc]
theorem dT {vs:Array Value} (hx:ev n g x=.tuple vs) (hv:vs[i]? = some v):aL n g ⟨dd,.extract x i,ty,pos,aft,gd⟩ w v:=by unfold aL execOp;simp [hx,Instr.extract,hv]
theorem cJ {t0:TypeId} {b:Bool} (hx:ev n g x=.bool b):aL n g ⟨dd,.unOp .not t0 x,ty,pos,aft,gd⟩ w (.bool !b):=by unfold aL execOp;simp [hx,Op.unary]
variable {k:IntKind} {a b:Int} {t t':TypeId}
theorem eT (hx : ev n g x = .int k a) (hy : ev n g y = .int k b) : aL n g ⟨dd, .binOp .lss t x y t', ty, pos, aft, gd⟩ w (.bool (decide (a < b))) := by unfold aL execOp; simp [hx, hy, go_sem]
theorem xV (hx : ev n g x = .int k a) (hy : ev n g y = .int k b) : aL n g ⟨dd, .binOp .leq t x y t', ty, pos, aft, gd⟩ w (.bool (decide (a <= b))) := by unfold aL execOp; simp [hx, hy, go_sem]
theorem gH (hx : ev n g x = .int k a) (hy : ev n g y = .int k b) : aL n g ⟨dd, .binOp .gtr t x y t', ty, pos, aft, gd⟩ w (.bool (decide (b < a))) := by unfold aL execOp; simp [hx, hy, go_sem]
theorem nU (hx : ev n g x = .int k a) (hy : ev n g y = .int k b) : aL n g ⟨dd, .binOp .geq t x y t', ty, pos, aft, gd⟩ w (.bool (decide (b <= a))) := by unfold aL execOp; simp [hx, hy, go_sem]
theorem eZ (hx:ev n g x=.int k a) (hy:ev n g y=.int k b):aL n g ⟨dd,.binOp .eql t x y t',ty,pos,aft,gd⟩ w (.bool (decide (a=b))):=by
 unfold aL execOp; simp only [hx, hy, go_sem]; simp [go_sem]; rfl
theorem gC (hx:ev n g x=.int k a) (hy:ev n g y=.int k b):aL n g ⟨dd,.binOp .neq t x y t',ty,pos,aft,gd⟩ w (.bool (!decide (a=b))):=by
 unfold aL execOp; simp only [hx, hy, go_sem]; simp [go_sem]; rfl
theorem XC (hx : ev n g x = .int k a) (hy : ev n g y = .int k b) : aL n g ⟨dd, .binOp .add t x y t', ty, pos, aft, gd⟩ w (.int k (k.wrap (a + b))) := by unfold aL execOp; simp [hx, hy, go_sem, Op.intArith]
theorem Eu (hx : ev n g x = .int k a) (hy : ev n g y = .int k b) : aL n g ⟨dd, .binOp .sub t x y t', ty, pos, aft, gd⟩ w (.int k (k.wrap (a - b))) := by unfold aL execOp; simp [hx, hy, go_sem, Op.intArith]
theorem iK (hx:ev n g x=zi a) (hy:ev n g y=zi b) (h:-9223372036854775808<=a+b/\a+b<=9223372036854775807):aL n g ⟨dd,.binOp .add t x y t',ty,pos,aft,gd⟩ w (zi (a+b)):=by
 have:=XC (dd:=dd) (ty:=ty) (pos:=pos) (aft:=aft) (gd:=gd) (w:=w) (t:=t) (t':=t') hx hy
 rwa [IntWalk.i64_in _ h] at this
theorem tB (hx:ev n g x=zi a) (hy:ev n g y=zi b) (h:-9223372036854775808<=a - b/\a - b<=9223372036854775807):aL n g ⟨dd,.binOp .sub t x y t',ty,pos,aft,gd⟩ w (zi (a - b)):=by
 have:=Eu (dd:=dd) (ty:=ty) (pos:=pos) (aft:=aft) (gd:=gd) (w:=w) (t:=t) (t':=t') hx hy
 rwa [IntWalk.i64_in _ h] at this
theorem r_inc {i:Nat} (hx:ev n g x=zi (i:Int)) (hy:ev n g y=zi 1) (h:i<9223372036854775807):aL n g ⟨dd,.binOp .add t x y t',ty,pos,aft,gd⟩ w (zi ((i+1:Nat):Int)):=by
 have:=iK (dd:=dd) (ty:=ty) (pos:=pos) (aft:=aft) (gd:=gd) (w:=w) (t:=t) (t':=t') hx hy ⟨by omega,by omega⟩
 rwa [show (i:Int)+1=((i+1:Nat):Int) by omega] at this
theorem ZK {i j:Nat} (hx:ev n g x=.int k (i:Int)) (hy:ev n g y=.int k (j:Int)):aL n g ⟨dd,.binOp .lss t x y t',ty,pos,aft,gd⟩ w (.bool (decide (i<j))):=by
 have:=eT (dd:=dd) (ty:=ty) (pos:=pos) (aft:=aft) (gd:=gd) (w:=w) (t:=t) (t':=t') hx hy
 rwa [show decide ((i:Int)<(j:Int))=decide (i<j) from decide_eq_decide.2 (by omega)] at this
theorem Gn (hx:ev n g x=zi a) (hy:ev n g y=zi b) (h0:0<=a) (h1:0<b):aL n g ⟨dd,.binOp .rem t x y t',ty,pos,aft,gd⟩ w (zi (a.tmod b)):=by
 unfold aL execOp
 have hb:b≠0:=by omega
 simp only [hx, hy, go_sem]
 simp [go_sem, hb]
theorem AO (hx:ev n g x=.string s) (hy:ev n g y=.string u):aL n g ⟨dd,.binOp .eql t x y t',ty,pos,aft,gd⟩ w (.bool (decide (s=u))):=by
 unfold aL execOp
 have e:(s.toList == u.toList)=decide (s=u):=by
  rw [aCi]
  simp only [beq_iff_eq,aBq]
  refine ⟨fun h=>?_,fun h=>by rw [h]⟩
  rw [aBc,aBc] at h
  exact ByteArray.ext (aCh.1 h)
 simp [hx, hy, go_sem, e]
theorem NF (hx:ev n g x=.string s) (hy:ev n g y=.string u):aL n g ⟨dd,.binOp .neq t x y t',ty,pos,aft,gd⟩ w (.bool (!decide (s=u))):=by
 unfold aL execOp
 have e:(s.toList == u.toList)=decide (s=u):=by
  rw [aCi]
  simp only [beq_iff_eq,aBq]
  refine ⟨fun h=>?_,fun h=>by rw [h]⟩
  rw [aBc,aBc] at h
  exact ByteArray.ext (aCh.1 h)
 simp [hx, hy, go_sem, bne, e]
def Xh (s u:ByteArray):Bool:=Op.bytesLess s.toList u.toList||s.toList == u.toList
theorem VX (hx:ev n g x=.string s) (hy:ev n g y=.string u):aL n g ⟨dd,.binOp .leq t x y t',ty,pos,aft,gd⟩ w (.bool (Xh s u)):=by
 unfold aL execOp Xh; simp [hx, hy, go_sem]
theorem Zq (hx:ev n g x=.string s) (hy:ev n g y=.string u):aL n g ⟨dd,.binOp .geq t x y t',ty,pos,aft,gd⟩ w (.bool (!Op.bytesLess s.toList u.toList)):=by
 unfold aL execOp; simp [hx, hy, go_sem]
theorem pL (hx:ev n g x=.string s) (hy:ev n g y=.string u) (h:s.size+u.size<=9223372036854775807):aL n g ⟨dd,.binOp .add t x y t',ty,pos,aft,gd⟩ w (.string (s++u)):=by
 have:=run_string_add_sum (P:=prog) w s u h
 unfold aL execOp; simp [hx, hy, go_sem, binOp, this]
theorem r_max (hx:ev n g x=zi a) (hy:ev n g y=zi b):aL n g ⟨dd,.call ⟨.builtin .max,#[x,y],#[t,t']⟩,ty,pos,aft,gd⟩ w (zi (if b>a then b else a)):=by
 unfold aL execOp
 simp [resolve,invoke,builtin,Builtin.max_,Builtin.max2,hx,hy]
theorem r_min (hx:ev n g x=zi a) (hy:ev n g y=zi b):aL n g ⟨dd,.call ⟨.builtin .min,#[x,y],#[t,t']⟩,ty,pos,aft,gd⟩ w (zi (if b<a then b else a)):=by
 unfold aL execOp
 simp [resolve,invoke,builtin,Builtin.min_,Builtin.min2,hx,hy]
theorem aY (hu:prog.underlying t=some (.slice e)) (hx:ev n g x=.slice bs m c):aL n g ⟨dd,.call ⟨.builtin .len,#[x],#[t]⟩,ty,pos,aft,gd⟩ w (zi (m:Int)):=by
 unfold aL execOp
 simp [resolve,invoke,builtin,Builtin.len_,hx,run_underlying hu,goInt]
theorem wD (hu:prog.underlying t=some .string) (hx:ev n g x=.string s):aL n g ⟨dd,.call ⟨.builtin .len,#[x],#[t]⟩,ty,pos,aft,gd⟩ w (zi (s.size:Int)):=by
 unfold aL execOp
 simp [resolve,invoke,builtin,Builtin.len_,hx,run_underlying hu,goInt]
theorem r_fa {s f b o sz:Nat} {fs:Array Field} {fd:Field} (hu:prog.underlying s=some (.struct fs)) (hf:fs[f]? = some fd) (hs:∀ w,(sizeOf fd.type).run prog w=.ok sz w) (hz:Nat.beq sz 0=false) (hx:ev n g x=pt b o):aL n g ⟨dd,.fieldAddr s x f,ty,pos,aft,gd⟩ w (pt b (o+fd.offset)):=by
 have hz':sz≠0:=by rintro rfl;cases hz
 unfold aL execOp
 simp [hx,Instr.fieldAt,run_underlying hu,hf,Instr.sureAddr,fieldPlace,hs,hz',aDf]
theorem bB {o m c i:Nat} (hu:prog.underlying t=some (.slice e)) (hs:∀ w,(sizeOf e).run prog w=.ok sz w) (hx:ev n g x=.slice (some ⟨bs,o,none⟩) m c) (hi:ev n g y=zi (i:Int)) (hlt:i<m):
  aL n g ⟨dd,.indexAddr t x y,ty,pos,aft,gd⟩ w (pt bs (o+i*sz)):=by
 unfold aL execOp
 simp [hx,hi,Instr.indexAt,asIntOf,run_underlying hu,hs,hlt,aDf]
theorem lR (ha:∀ w,(isAgg t).run prog w=.ok false w) (hx:ev n g x=.pointer (some ad)) (hc:w.cell? ad=some v):aL n g ⟨dd,.load t x,ty,pos,aft,gd⟩ w v:=by
 unfold aL execOp
 simp [hx,Instr.loadAt,Instr.sureAddr,loadVar,ha,load,Sem.run,hc]
theorem jZ {b o sz:Nat} {cs:List Value} (ha:∀ w,(isAgg t).run prog w=.ok true w) (hs:∀ w,(sizeOf t).run prog w=.ok sz w) (hl:cs.length=sz) (hx:ev n g x=pt b o) (hc:w.rangeAt b o cs):
  aL n g ⟨dd,.load t x,ty,pos,aft,gd⟩ w (.agg cs.toArray):=by
 unfold aL execOp
 have hl':=run_loadCells_list (P:=prog) w ⟨b,o,none⟩ cs (fun j v hv=>by rw [aDf];exact hc j v hv)
 subst hl
 simp [hx,Instr.loadAt,Instr.sureAddr,loadVar,ha,hs,hl']
theorem iA {ps:List (Nat × Operand)} {cells:Array Value} (h:prog.built t (ps.map fun p=>(p.1,ev n g p.2))=some cells):aL n g ⟨dd,.build t ps.toArray,ty,pos,aft,gd⟩ w (.agg cells):=by
 unfold aL execOp
 have:=run_build (P:=prog) w t (ps.map fun p=>(p.1,ev n g p.2)).toArray cells (by simpa using h)
 simp only [aCe,aDe,this,aBw,aDh]
theorem pO {td:TypeDesc} {k':IntKind} (hs:prog.underlying s=some td) (hd:prog.underlying t=some (.int k')) (hx:ev n g x=.int k a):aL n g ⟨dd,.convert s t x,ty,pos,aft,gd⟩ w (.int k' (k'.wrap a)):=by
 unfold aL execOp
 simp [hx,convert,run_underlying hs,run_underlying hd,Conv.intToInt]
end
def Bk (b:Nat) (cs:List Value) (t:TypeId) (w:World):Prop:=w.heap[b]? = some (.cells cs.toArray t (0,0))
section
variable {b:Nat} {cs:List Value} {t:TypeId} {w w':World}
theorem Bk.lt (h:Bk b cs t w):b<w.heap.size:=(Array.getElem?_eq_some_iff.1 h).1
theorem Bk.new (cs) (t) (w:World):Bk w.heap.size cs t (w.alloc (.cells cs.toArray t)):=oG w _
theorem Bk.cell (h:Bk b cs t w) (j:Nat) (hv:cs[j]? = some v):w.cell? ⟨b,j,none⟩=some v:=by
 unfold Bk at h
 unfold World.cell?
 rw [h]
 simp [hv]
theorem Bk.frozen (h:Bk b cs t w) (j:Nat):w.frozen? ⟨b,j,none⟩=false:=by
 unfold Bk at h
 unfold World.frozen?
 rw [h]
 simp
theorem Bk.below (h:Bk b cs t w) (k:Below w.heap.size w w'):Bk b cs t w':=(k.block b h.lt).trans h
theorem Bk.from (h:Bk b cs t w) (hb:b<B) (k:Below B w w'):Bk b cs t w':=(k.block b hb).trans h
theorem Bk.only (h:Bk b cs t w) (k:aS c w w') (hne:b≠c):Bk b cs t w':=(k.block b h.lt (by simpa using hne)).trans h
theorem Bk.set (h:Bk b cs t w) (j) (v):Bk b (cs.set j v) t (w.setCell ⟨b,j,none⟩ v):=by
 unfold Bk at *
 unfold World.setCell
 simp [Array.getElem?_modify,h]
theorem Bk.range (h:Bk b cs t w):w.rangeAt b 0 cs:=fun j v hv=>by rw [aDa];exact h.cell j hv
theorem Bk.part (h:Bk b cs t w) (hs:(cs.drop o).take sub.length=sub):w.rangeAt b o sub:=fun j v hv=>by
 refine h.cell (o+j) ?_
 rw [<- hs,List.getElem?_take] at hv
 split at hv
 ·rwa [List.getElem?_drop] at hv
 ·cases hv
end
section
variable {r:Option Nat} {n:Nat} {ds:List Deferred} {g:Nat->Value} {w:World} {Q:Exit->Act->World->Prop} {l L:List Oper} {ops:Array Oper} {ty:TypeId} {pos:String} {aft:Array Edge} {d:Tmp} {v:Value} {x y:Operand} {t:TypeId}
theorem iF (w) (o):Below w.heap.size w (w.alloc o):=(aDt _ _).alloc (aDl _) o
theorem cO (hx:ev n g x=v) (hv:v.cells=cs.toArray) (h:∀ w',Bk w.heap.size cs t w'->Below w.heap.size w w'->w'.heap.size=w.heap.size+1->dY r ops Q l (fr n ds (up g d (pt w.heap.size 0))) w'):
  dY r ops Q (⟨some d,.box t x,ty,pos,aft,none⟩::l) (fr n ds g) w:=by
 refine eM rfl fun K hK=>?_
 have hr:(execOp (ev n g) ⟨some d,.box t x,ty,pos,aft,none⟩).run prog w=.ok (.value (pt w.heap.size 0)) (w.alloc (.cells cs.toArray t)):=by
  unfold execOp
  simp [hx,Instr.box,newVar,newRow,hv]
 refine iC (by rw [bV];exact hr) ?_
 rw [fF]
 exact hK _ _ (h _ (Bk.new cs t w) (iF w _) (by simp))
theorem eA (hz:∀ w,(zeroValue t).run prog w=.ok z w) (hv:z.cells=cs.toArray) (h:∀ w',Bk w.heap.size cs t w'->Below w.heap.size w w'->w'.heap.size=w.heap.size+1->dY r ops Q l (fr n ds (up g d (pt w.heap.size 0))) w'):
  dY r ops Q (⟨some d,.alloc t,ty,pos,aft,none⟩::l) (fr n ds g) w:=by
 refine eM rfl fun K hK=>?_
 have hr:(execOp (ev n g) ⟨some d,.alloc t,ty,pos,aft,none⟩).run prog w=.ok (.value (pt w.heap.size 0)) (w.alloc (.cells cs.toArray t)):=by
  unfold execOp
  simp [hz,Instr.alloc,newVar,newRow,hv]
 refine iC (by rw [bV];exact hr) ?_
 rw [fF]
 exact hK _ _ (h _ (Bk.new cs t w) (iF w _) (by simp))
theorem Lr {sz:Nat} {ps:List (Nat × Operand)} {ie:TypeInfo} (hu:prog.underlying t=some (.slice e)) (hie:prog.info? e=some ie) (hz:ie.zero=some z) (hs:Nat.ble (m*ie.size) 16777216=true) (hp:Nat.beq (m*ie.size) 0=false)
  (hf:Instr.fill (fun i=>some (i*ie.size,ie.size)) (((List.range (m*ie.size)).map (z.cells[· % z.cells.size]!)).toArray) (ps.map fun p=>(p.1,ev n g p.2))=some cells.toArray)
  (h:∀ w',Bk w.heap.size cells e w'->Below w.heap.size w w'->w'.heap.size=w.heap.size+1->dY r ops Q l (fr n ds (up g d (.slice (some ⟨w.heap.size,0,none⟩) m m))) w'):
  dY r ops Q (⟨some d,.buildSlice t m ps.toArray,ty,pos,aft,none⟩::l) (fr n ds g) w:=by
 refine eM rfl fun K hK=>?_
 have hr:(execOp (ev n g) ⟨some d,.buildSlice t m ps.toArray,ty,pos,aft,none⟩).run prog w=.ok (.value (.slice (some ⟨w.heap.size,0,none⟩) m m)) (w.alloc (.cells cells.toArray e)):=by
  have hs':¬ m*ie.size>2 ^ 24:=by have:=aA1 hs;omega
  have hp':¬ m*ie.size=0:=by intro e;rw [e] at hp;cases hp
  have hb:=run_buildSlice (P:=prog) w t e m (ps.map fun p=>(p.1,ev n g p.2)).toArray cells.toArray ie z hu hie hz hs' hp' (by
   have:((List.range (m*ie.size)).map (z.cells[· % z.cells.size]!)).toArray=(Array.range (m*ie.size)).map (z.cells[· % z.cells.size]!):=by
    rw [<- List.toArray_range,aCe]
   rw [<- this];simpa using hf)
  unfold execOp
  simp [hb]
 refine iC (by rw [bV];exact hr) ?_
 rw [fF]
 exact hK _ _ (h _ (Bk.new cells e w) (iF w _) (by simp))
theorem eP (hB:Bk b cs td w) (hs:∀ w,(sizeOf t).run prog w=.ok 1 w) (hx:ev n g x=pt b j) (hy:ev n g y=v) (h1:v.oneCell'=true) (hj:Nat.blt j cs.length=true)
  (h:∀ w',Bk b (cs.set j v) td w'->aS b w w'->w'.heap.size=w.heap.size->dY r ops Q l (fr n ds g) w'):dY r ops Q (⟨none,.store t x y,ty,pos,aft,none⟩::l) (fr n ds g) w:=by
 refine eM rfl fun K hK=>?_
 have hj':j<cs.length:=by rw [aDw] at hj;exact hj
 have hc:w.cell? ⟨b,j,none⟩=some cs[j]:=hB.cell j (List.getElem?_eq_getElem hj')
 have hvc:v.cells=#[v]:=by cases v <;> simp_all [Value.oneCell',Value.cells]
 have hr:(execOp (ev n g) ⟨none,.store t x y,ty,pos,aft,none⟩).run prog w=.ok .skip (w.setCell ⟨b,j,none⟩ v):=by
  unfold execOp
  simp only [hx,hy,Instr.storeAt,Instr.sureAddr,storeVar,aDe,hs,aBw,aDh,hvc]
  simp [storeCells,run_store prog w _ _ _ h1,aCy,hc,hB.frozen j]
 exact qK (by rw [bV];exact hr) (hK _ _ (h _ (hB.set j v) (aS.setCell (aS.refl b w) j v) (by simp [World.setCell])))
theorem cl {xs:List Operand} {caps:Array Value} {args:Array Value} {R:Ending->World->Prop} (hf:∀ args w,(callFunc f args).run prog w=.ok (.enter f args) w) (hx:ev n g x=.func (.func f) #[] caps)
  (hc:Calls prog f args w R) (ha:args.toList=xs.map (ev n g)++caps.toList) (h:∀ e w',R e w'->∃ v,e=.returned v/\dY r ops Q l (fr n ds (up g d v)) w'):
  dY r ops Q (⟨some d,.call ⟨.value x,xs.toArray,ts⟩,ty,pos,aft,none⟩::l) (fr n ds g) w:=by
 refine eM rfl fun K hK=>?_
 have hargs:args=(xs.map (ev n g)).toArray++caps:=by
  apply aCh.1
  simp [ha]
 have hr:(execOp (ev n g) ⟨some d,.call ⟨.value x,xs.toArray,ts⟩,ty,pos,aft,none⟩).run prog w=.ok (.enter f args) w:=by
  unfold execOp
  simp [resolve,hx,Deferred.ofValue,invoke,hf,hargs]
 refine sM (by rw [bV];exact hr) (hc.mono fun e w' hR=>?_)
 obtain ⟨v,rfl,hw⟩:=h e w' hR
 show K ((fr n ds g).put (some d) v) w'
 rw [fF]
 exact hK _ _ hw
theorem clg {k jj:Nat} {bb:Bool} {xs:List Operand} {caps:Array Value} {args:Array Value} {R:Ending->World->Prop} (hk:(L[k]?).bind (·.dst)=some jj) (hjj:ev n g (.tmp jj)=.bool bb) (hf:∀ args w,(callFunc f args).run prog w=.ok (.enter f args) w) (hx:ev n g x=.func (.func f) #[] caps)
  (hc:Calls prog f args w R) (ha:args.toList=xs.map (ev n g)++caps.toList) (h:∀ e w',R e w'->∃ v,e=.returned v/\dY r L.toArray Q l (fr n ds (up g d v)) w'):
  dY r L.toArray Q (⟨some d,.call ⟨.value x,xs.toArray,ts⟩,ty,pos,aft,some (k,bb)⟩::l) (fr n ds g) w:=by
 refine tI fun K hK=>?_
 rw [tQ rfl hk hjj]
 simp only [beq_self_eq_true,if_true]
 have hargs:args=(xs.map (ev n g)).toArray++caps:=by
  apply aCh.1
  simp [ha]
 have hr:(execOp (ev n g) ⟨some d,.call ⟨.value x,xs.toArray,ts⟩,ty,pos,aft,some (k,bb)⟩).run prog w=.ok (.enter f args) w:=by
  unfold execOp
  simp [resolve,hx,Deferred.ofValue,invoke,hf,hargs]
 refine sM (by rw [bV];exact hr) (hc.mono fun e w' hR=>?_)
 obtain ⟨v,rfl,hw⟩:=h e w' hR
 show K ((fr n ds g).put (some d) v) w'
 rw [fF]
 exact hK _ _ hw
end
abbrev aD3:=@Bk.below
abbrev aEa:=@Bk.only
abbrev aEf:=@Bk.lt
def jY (o:Oper):List Nat:=(o.after.toList.filter (Region.binds .any)).map (·.on)
def AP (l:List Oper) (i s:Nat):Bool:=(List.range l.length).all fun j=>match l[j]? with
 | some o=>(o.dst != some s)||(j == i)||(jY o).contains i
 | none=>true
def dB (l:List Oper) (s:Nat):Bool:=l.all fun o=>o.dst != some s
def qL (l:List Oper):List Nat:=l.filterMap (·.dst)
def iS:List Nat->Bool
 | []=>true
 | x::r=>!r.contains x&&iS r
theorem sY: ∀ {l:List Nat},iS l=true->l.Nodup
 | [],_=>List.nodup_nil
 | x::r,h=>by
  simp only [iS,aB0,aBt] at h
  exact List.nodup_cons.2 ⟨by simpa using h.1,sY h.2⟩
theorem Se (h:(qL l).Nodup) {i j:Nat} (hi:l[i]? = some o) (hj:l[j]? = some o') (h1:o.dst=some d) (h2:o'.dst=some d):i=j:=by
 induction l generalizing i j with
 | nil=>simp at hi
 | cons x r ih=>
  have hr:(qL r).Nodup:=by
   unfold qL at h ⊢
   rw [List.filterMap_cons] at h
   split at h
   ·exact h
   ·exact (List.nodup_cons.1 h).2
  have hmem:∀ {k:Nat} {y:Oper},r[k]? = some y->y.dst=some d->d∈qL r:=fun hk hy=>by
   unfold qL
   exact List.mem_filterMap.2 ⟨_,List.mem_of_getElem? hk,hy⟩
  have hx:x.dst=some d->d ∉ qL r:=fun hxd=>by
   unfold qL at h ⊢
   rw [List.filterMap_cons,hxd] at h
   exact (List.nodup_cons.1 h).1
  match i,j with
  | 0,0=>rfl
  | 0,j+1=>
   simp at hi;subst hi
   exact absurd (hmem (by simpa using hj) h2) (hx h1)
  | i+1,0=>
   simp at hj;subst hj
   exact absurd (hmem (by simpa using hi) h1) (hx h2)
  | i+1,j+1=>exact aD7 (·+1) (ih hr (by simpa using hi) (by simpa using hj))
def kH (V:List (Value->World->Prop)) (i:Nat):Value->World->Prop:=V.getD i fun _ _=>True
def qX (l:List Oper):List Nat->Bool
 | a::b::r=>((l[b]?).map fun o=>(jY o).contains a).getD false&&qX l (b::r)
 | _=>true
def tV (n:Nat) (g:Nat->Value) (o:Oper) (w:World) (Pn:List PanicEntry->World->Prop) (R:Value->World->Prop):Prop:=
 (∃ v w',(execOp (ev n g) o).run prog w=.ok (.value v) w'/\R v w') \/
 (∃ f args,(execOp (ev n g) o).run prog w=.ok (.enter f args) w/\Calls prog f args w fun e w'=>(∃ v,e=.returned v/\R v w')\/(∃ c,e=.panicked c/\Pn c w')) \/
 (∃ w',(execOp (ev n g) o).run prog w=.ok .skip w'/\R undef w')
section
variable {r:Option Nat} {n:Nat} {ds:List Deferred} {l:List Oper} {T:World->World->Prop} {V:List (Value->World->Prop)} {ch:List Nat} {St:Nat->World->Prop} {Pn:List PanicEntry->World->Prop} {g0 g:Nat->Value} {w0 w w':World} {L:Nat->Bool} {Q:Exit->Act->World->Prop}
def gE (n:Nat) (l:List Oper) (T:World->World->Prop) (V:List (Value->World->Prop)) (ch:List Nat) (St:Nat->World->Prop) (Pn:List PanicEntry->World->Prop) (g0:Nat->Value) (w0:World) (i:Nat) (o:Oper):Prop:=
 ∀ g w,T w0 w->(∀ j∈jY o,∀ oj d,l[j]? = some oj->oj.dst=some d->kH V j (g d) w)->(∀ s,AP l i s=true->g s=g0 s)->(∀ k,ch[k]? = some i->St k w)->(∀ c oc,ch[0]? = some c->l[c]? = some oc->i∈jY oc->St 0 w) ->
  (Region.wanted o (yielded l.toArray (fr n [] g).tmps)=true->tV n g o w Pn fun v w'=>T w w'/\kH V i v w'/\((i ∉ ch/\Below w.heap.size w w')\/∃ k,ch[k]? = some i/\St (k+1) w')) /\
  (Region.wanted o (yielded l.toArray (fr n [] g).tmps)=false->i ∉ ch/\kH V i undef w)
structure QI (l:List Oper) (T:World->World->Prop) (V:List (Value->World->Prop)) (ch:List Nat) (St:Nat->World->Prop) (g0:Nat->Value) (w0:World) (L:Nat->Bool) (g:Nat->Value) (w:World):Prop where
 t:T w0 w
 old:∀ s,(∀ i o,l[i]? = some o->o.dst=some s->L i=false)->g s=g0 s
 val:∀ i o d,l[i]? = some o->o.dst=some d->L i=true->kH V i (g d) w
 cl:∀ i o,l[i]? = some o->L i=true->∀ j∈jY o,L j=true
 st:St (ch.countP L) w
def Fl (f:Nat->Bool) (i:Nat):Nat->Bool:=fun j=>if j=i then true else f j
theorem xF (f:Nat->Bool) (i):Fl f i i=true:=by simp [Fl]
theorem sF (f:Nat->Bool) (h:j≠i):Fl f i j=f j:=by simp [Fl,h]
structure cW (l:List Oper) (T:World->World->Prop) (V:List (Value->World->Prop)) (ch:List Nat) (St:Nat->World->Prop):Prop where
 dst:iS (qL l)=true
 chn:iS ch=true
 chl:ch.all (fun i=>decide (i<l.length))=true
 chain:qX l ch=true
 tr:∀ {a b c},T a b->T b c->T a c
 ofB:∀ {a b:World},Below a.heap.size a b->T a b
 vT:∀ i v {a b:World},kH V i v a->(Below a.heap.size a b\/(T a b/\ch.getLast? ≠ some i))->kH V i v b
 sB:∀ k {a b:World},St k a->Below a.heap.size a b->St k b
theorem Dl {ch:List Nat} (h:qX l ch=true) (hl:∀ i∈ch,i<l.length) {L:Nat->Bool} (cl:∀ i o,l[i]? = some o->L i=true->∀ j∈jY o,L j=true):∀ (k i:Nat),ch[k]? = some i->L i=false->∀ (m j:Nat),k<=m->ch[m]? = some j->L j=false:=by
 induction ch with
 | nil=>intro k i h;simp at h
 | cons a r ih=>
  have hr:qX l r=true:=by
   cases r with
   | nil=>rfl
   | cons b r=>simp only [qX,aB0] at h;exact h.2
  have ihr:=ih hr (fun i hi=>hl i (by simp [hi]))
  intro k i hk hi m j hm hj
  match k,m with
  | 0,0=>simp at hk hj;subst hk hj;exact hi
  | k+1,m+1=>exact ihr k i (by simpa using hk) hi m j (by omega) (by simpa using hj)
  | 0,m+1=>
   simp at hk;subst hk
   cases r with
   | nil=>simp at hj
   | cons b r=>
    have hb:L b=false:=by
     cases hc:L b with
     | false=>rfl
     | true=>
      simp only [qX,aB0] at h
      have hbl:b<l.length:=hl b (by simp)
      have h1:=h.1
      rw [List.getElem?_eq_getElem hbl] at h1
      have:=cl b _ (List.getElem?_eq_getElem hbl) hc a (by simpa using h1)
      rw [this] at hi;cases hi
    exact ihr 0 b (by simp) hb m j (by omega) (by simpa using hj)
theorem IE {ch:List Nat} (hn:ch.Nodup) {L:Nat->Bool} {k i:Nat} (hk:ch[k]? = some i) (hpre:∀ (m j:Nat),k<=m->ch[m]? = some j->L j=false) (hall:∀ (m j:Nat),m<k->ch[m]? = some j->L j=true):ch.countP L=k/\ch.countP (Fl L i)=k+1:=by
 induction ch generalizing k with
 | nil=>simp at hk
 | cons a r ih=>
  have hnr:=(List.nodup_cons.1 hn)
  match k with
  | 0=>
   simp at hk;subst hk
   have h0:∀ x∈r,L x=false:=fun x hx=>by
    obtain ⟨m,hm⟩:=List.mem_iff_getElem?.1 hx
    exact hpre (m+1) x (by omega) (by simpa using hm)
   have ha:=hpre 0 a (by omega) (by simp)
   have e1:r.countP L=0:=aBd.2 fun x hx=>by rw [h0 x hx];simp
   have e2:r.countP (Fl L a)=0:=aBd.2 fun x hx=>by
    rw [sF _ (fun e=>hnr.1 (by rw [<- e];exact hx)),h0 x hx];simp
   simp [List.countP_cons,e1,e2,ha,xF]
  | k+1=>
   have hk':r[k]? = some i:=by simpa using hk
   have:=ih hnr.2 hk' (fun m j hm hj=>hpre (m+1) j (by omega) (by simpa using hj)) (fun m j hm hj=>hall (m+1) j (by omega) (by simpa using hj))
   have ha:=hall 0 a (by omega) (by simp)
   have hia:a≠i:=fun e=>hnr.1 (by rw [e];exact List.mem_of_getElem? hk')
   rw [List.countP_cons,List.countP_cons,this.1,this.2,ha,sF _ hia,ha]
   simp
theorem GD {ch:List Nat} (h:qX l ch=true) {L:Nat->Bool} (cl:∀ i o,l[i]? = some o->L i=true->∀ j∈jY o,L j=true) {k i:Nat} (hk:ch[k]? = some i) (ho:l[i]? = some o) (hd:∀ j∈jY o,L j=true):∀ (m j:Nat),m<k->ch[m]? = some j->L j=true:=by
 induction ch generalizing k i o with
 | nil=>simp at hk
 | cons a r ih=>
  match k with
  | 0=>intro m j hm;omega
  | k+1=>
   cases r with
   | nil=>simp at hk
   | cons b r=>
    simp only [qX,aB0] at h
    have hk':(b::r)[k]? = some i:=by simpa using hk
    have hrest:=ih h.2 hk' ho hd
    intro m j hm hj
    match m with
    | m+1=>exact hrest m j (by omega) (by simpa using hj)
    | 0=>
     simp at hj;subst hj
     have h1:=h.1
     cases hlb:l[b]? with
     | none=>rw [hlb] at h1;simp at h1
     | some ob=>
      rw [hlb] at h1
      have hmem:a∈jY ob:=by simpa using h1
      match k with
      | 0=>
       simp at hk';subst hk'
       rw [hlb] at ho;cases ho
       exact hd _ hmem
      | k+1=>exact cl b ob hlb (hrest 0 b (by omega) (by simp)) _ hmem
theorem QI.put (S:cW l T V ch St) (h:QI l T V ch St g0 w0 L g w) (ho:l[i]? = some o) (hu:L i=false) (hd:∀ j∈jY o,L j=true) (ht:T w w') (hv:kH V i v w')
  (hs:St (ch.countP (Fl L i)) w') (hq:Below w.heap.size w w'\/∀ j,L j=true->ch.getLast? ≠ some j) {g':Nat->Value} (h1:∀ d,o.dst=some d->g' d=v) (h2:∀ s,o.dst≠some s->g' s=g s):QI l T V ch St g0 w0 (Fl L i) g' w' where
 t:=S.tr h.t ht
 old s hs':=by
  have hne:o.dst≠some s:=fun e=>by have:=hs' i o ho e;rw [xF] at this;cases this
  rw [h2 s hne]
  refine h.old s fun j oj hj hdj=>?_
  have hji:j≠i:=fun e=>by subst e;rw [ho] at hj;cases hj;exact hne hdj
  have:=hs' j oj hj hdj
  rwa [sF _ hji] at this
 val j oj d hj hdj hl:=by
  by_cases e:j=i
  ·subst e
   rw [ho] at hj;cases hj
   rw [h1 d hdj];exact hv
  ·rw [sF _ e] at hl
   have hne:o.dst≠some d:=fun e'=>e (Se (sY S.dst) hj ho hdj e')
   rw [h2 d hne]
   exact S.vT _ _ (h.val j oj d hj hdj hl) (hq.imp id fun q=>⟨ht,q j hl⟩)
 cl j oj hj hl k hk:=by
  by_cases e:j=i
  ·subst e
   rw [ho] at hj;cases hj
   have:=hd k hk
   by_cases e':k=j
   ·subst e';exact xF _ _
   ·rw [sF _ e'];exact this
  ·rw [sF _ e] at hl
   have:=h.cl j oj hj hl k hk
   by_cases e':k=i
   ·subst e';exact xF _ _
   ·rw [sF _ e'];exact this
 st:=hs
theorem JR (n) (ds) (g:Nat->Value) (o:Oper) (v):∃ g',(fr n ds g).put o.dst v=fr n ds g'/\(∀ d,o.dst=some d->g' d=v)/\(∀ s,o.dst≠some s->g' s=g s):=by
 cases hd:o.dst with
 | none=>exact ⟨g,rfl,fun d e=>(by cases e),fun _ _=>rfl⟩
 | some d=>exact ⟨up g d v,fF n ds g d v,fun d' e=>by cases e;exact Bi g d v,fun s hs=>VL g v (fun e=>hs (by rw [e]))⟩
theorem QI.stepG (S:cW l T V ch St) (h:QI l T V ch St g0 w0 L g w) (ho:l[i]? = some o) (hu:L i=false) (hd:∀ j∈jY o,L j=true) (hO:gE n l T V ch St Pn g0 w0 i o)
  (hpan:∀ c g w,(∀ s,dB l s=true->g s=g0 s)->Pn c w->Q (.panic c) (fr n ds g) w) {K:Act->World->Prop} (hK:∀ g' w',QI l T V ch St g0 w0 (Fl L i) g' w'->K (fr n ds g') w'):
  if Region.wanted o (yielded l.toArray (fr n ds g).tmps) then Ow r o (fr n ds g) w K Q else K ((fr n ds g).put o.dst undef) w:=by
 have hpre:=fun k hk=>Dl S.chain (fun i hi=>by simpa using aB1.1 S.chl i hi) h.cl k i hk hu
 have hah:=fun k hk=>GD S.chain h.cl (k:=k) hk ho hd
 have hcnt:=fun k hk=>IE (sY S.chn) (k:=k) hk (hpre k hk) (hah k hk)
 have hno:i ∉ ch->ch.countP (Fl L i)=ch.countP L:=fun hni=>List.countP_congr fun x hx=>by rw [sF _ (fun e=>hni (by rw [<- e];exact hx))]
 obtain ⟨h1,h2⟩:=hO g w h.t (fun j hj oj d hoj hdj=>h.val j oj d hoj hdj (hd j hj))
  (fun s hs=>h.old s fun j oj hoj hdj=>by
   have hj:j<l.length:=(List.getElem?_eq_some_iff.1 hoj).1
   have:=aB1.1 hs j (aCw.2 hj)
   rw [hoj] at this
   simp only [aCm,bne_iff_ne,ne_eq,beq_iff_eq] at this
   rcases this with (hne | e) | hc
   ·exact absurd hdj hne
   ·rw [e];exact hu
   ·cases hc2:L j with
    | false=>rfl
    | true=>
     have:=h.cl j oj hoj hc2 i (by simpa using hc)
     rw [this] at hu;cases hu)
  (fun k hk=>by rw [<- (hcnt k hk).1];exact h.st)
  (fun c oc hc hoc hm=>by
   have hLc:L c=false:=by
    cases e:L c with
    | false=>rfl
    | true=>have:=h.cl c oc hoc e i hm;rw [this] at hu;cases hu
   have h0:=Dl S.chain (fun i hi=>by simpa using aB1.1 S.chl i hi) h.cl 0 c hc hLc
   have e0:ch.countP L=0:=aBd.2 fun x hx=>by
    obtain ⟨m,hm2⟩:=List.getElem?_of_mem hx
    rw [h0 m x (aDm _) hm2];exact aBf
   rw [<- e0];exact h.st)
 have ht:(fr n [] g).tmps=(fr n ds g).tmps:=rfl
 rw [ht] at h1 h2
 cases hw:Region.wanted o (yielded l.toArray (fr n ds g).tmps) with
 | false=>
  simp only [Bool.false_eq_true,if_false]
  obtain ⟨hni,hv⟩:=h2 hw
  obtain ⟨g',e1,e2,e3⟩:=JR n ds g o undef
  rw [e1]
  exact hK _ _ (h.put S ho hu hd (S.ofB (aDt _ _)) hv (by rw [hno hni];exact h.st) (.inl (aDt _ _)) e2 e3)
 | true=>
  simp only [if_true]
  have fin:∀ v w',(T w w'/\kH V i v w'/\((i ∉ ch/\Below w.heap.size w w')\/∃ k,ch[k]? = some i/\St (k+1) w'))->K ((fr n ds g).put o.dst v) w':=by
   rintro v w' ⟨h3,h4,h5⟩
   obtain ⟨g',e1,e2,e3⟩:=JR n ds g o v
   rw [e1]
   refine hK _ _ (h.put S ho hu hd h3 h4 ?_ ?_ e2 e3)
   rotate_left
   ·rcases h5 with ⟨_,hb⟩ | ⟨k,hk,_⟩
    ·exact .inl hb
    ·refine .inr fun j hj e=>?_
     have hkl:k<ch.length:=(List.getElem?_eq_some_iff.1 hk).1
     have e2:ch[ch.length - 1]? = some j:=by rw [<- List.getLast?_eq_getElem?];exact e
     have:=hpre k hk (ch.length - 1) j (by omega) e2
     rw [this] at hj;cases hj
   rcases h5 with ⟨hni,hb⟩ | ⟨k,hk,hs⟩
   ·rw [hno hni];exact S.sB _ h.st hb
   ·rw [(hcnt k hk).2];exact hs
  rcases h1 hw with ⟨v,w',hr,hR⟩ | ⟨f,args,hr,hc⟩ | ⟨w',hr,hR⟩
  ·exact iC (by rw [bV];exact hr) (fin v w' hR)
  ·refine sM (by rw [bV];exact hr) (hc.mono ?_)
   rintro e w' (⟨v,rfl,hR⟩ | ⟨c,rfl,hP⟩)
   ·exact fin v w' hR
   ·refine hpan c g w' (fun s hs=>h.old s fun j oj hoj hdj=>?_) hP
    have:=aB1.1 hs oj (List.mem_of_getElem? hoj)
    rw [hdj] at this
    simp at this
  ·exact qK (by rw [bV];exact hr) (fin undef w' hR)
theorem QI.step (S:cW l T V ch St) (h:QI l T V ch St g0 w0 L g w) (ho:l[i]? = some o) (hu:L i=false) (hd:∀ j∈jY o,L j=true) (hO:gE n l T V ch St Pn g0 w0 i o)
  (hpan:∀ c g w,Pn c w->Q (.panic c) (fr n ds g) w) {K:Act->World->Prop} (hK:∀ g' w',QI l T V ch St g0 w0 (Fl L i) g' w'->K (fr n ds g') w'):
  if Region.wanted o (yielded l.toArray (fr n ds g).tmps) then Ow r o (fr n ds g) w K Q else K ((fr n ds g).put o.dst undef) w:=
 h.stepG S ho hu hd hO (fun c g w _=>hpan c g w) hK
def gA (F:Nat->Oper->Prop):Nat->List Oper->Prop
 | _,[]=>True
 | k,o::r=>F k o/\gA F (k+1) r
theorem oI {F:Nat->Oper->Prop}:∀ {l:List Oper} {k:Nat},gA F k l->∀ i o,l[i]? = some o->F (k+i) o
 | [],_,_,i,o,h=>by simp at h
 | x::r,k,⟨h1,h2⟩,0,o,h=>by simp at h;subst h;exact h1
 | x::r,k,⟨h1,h2⟩,i+1,o,h=>by
  have:=oI h2 i o (by simpa using h)
  rw [show k+(i+1)=k+1+i from by omega]
  exact this
theorem QI.start (S:cW l T V ch St) (g0:Nat->Value) (w0) (h0:St 0 w0) (hT:T w0 w) (hs:St 0 w):QI l T V ch St g0 w0 (fun _=>false) g0 w:=
 ⟨hT,fun _ _=>rfl,fun _ _ _ _ _ h=>(aBf h).elim,fun _ _ _ h=>(aBf h).elim,by
  have:ch.countP (fun _=>false)=0:=aBd.2 fun x _=>by simp
  rw [this];exact hs⟩
def uM (l:List Oper) (T:World->World->Prop) (V:List (Value->World->Prop)) (m:Nat) (St:Nat->World->Prop) (g0:Nat->Value) (w0:World) (g:Nat->Value) (w:World):Prop:=
 T w0 w/\(∀ i o d,l[i]? = some o->o.dst=some d->kH V i (g d) w)/\(∀ s,dB l s=true->g s=g0 s)/\St m w
theorem QI.ended (S:cW l T V ch St) (h:QI l T V ch St g0 w0 L g w) (ha:∀ i,i<l.length->L i=true):uM l T V ch.length St g0 w0 g w:=by
 refine ⟨h.t,fun i o d hi hd=>h.val i o d hi hd (ha i (List.getElem?_eq_some_iff.1 hi).1),fun s hs=>h.old s fun i o hi hd=>?_,?_⟩
 ·have:=aB1.1 hs o (List.mem_of_getElem? hi)
  rw [hd] at this
  simp at this
 ·have:ch.countP L=ch.length:=List.countP_eq_length.2 fun x hx=>ha x (by simpa using aB1.1 S.chl x hx)
  rw [<- this];exact h.st
theorem rqDG {id:Nat} (S:cW l T V ch St) (he:Region.earlier .any l.toArray=true) (h0:St 0 w) (hO:gA (gE n l T V ch St Pn g w) 0 l) (hpan:∀ c g' w,(∀ s,dB l s=true->g' s=g s)->Pn c w->Q (.panic c) (fr n ds g') w)
  (hend:∀ g' w',uM l T V ch.length St g w g' w'->Q .normal (fr n ds g') w'):Wp r (Code.region id l.toArray true) Q (fr n ds g) w:=by
 refine qP (Inv:=fun listed a w1=>∃ g1,a=fr n ds g1/\QI l T V ch St g w (fun i=>listed.getD i false) g1 w1) he ?_ ?_ ?_
 ·refine ⟨g,rfl,?_⟩
  have:(fun i=>(Array.replicate l.toArray.size false).getD i false)=fun _=>false:=by
   funext i
   simp only [Array.getD_eq_getD_getElem?,Array.getElem?_replicate]
   split <;> rfl
  rw [this]
  exact QI.start S g w h0 (S.ofB (aDt _ _).drew) (S.sB _ h0 (aDt _ _).drew)
 ·rintro listed a w1 i o hs ⟨g1,rfl,hI⟩ ho hu hl
  have hi:i<listed.size:=by rw [hs];exact (Array.getElem?_eq_some_iff.1 ho).1
  have ho':l[i]? = some o:=by simpa using ho
  have hst:=hI.stepG (r:=r) S ho' (by simpa [hi] using hu) (fun j hj=>by
   unfold jY at hj
   obtain ⟨e,he2,rfl⟩:=aDc.1 hj
   have:=aCn.1 he2
   exact hl e (by simpa using this.1) this.2) (by have:=oI hO i o ho';rwa [aDa] at this) hpan (K:=fun a' w'=>∃ g1,a'=fr n ds g1/\QI l T V ch St g w (fun j=>(listed.setIfInBounds i true).getD j false) g1 w') (fun g' w' hI'=>⟨g',rfl,by
    have:(fun j=>(listed.setIfInBounds i true).getD j false)=Fl (fun j=>listed.getD j false) i:=by
     funext j
     unfold Fl
     split
     ·rename_i e;subst e;simp [hi]
     ·rename_i e;simp [Ne.symm e]
    rw [this];exact hI'⟩)
  exact hst
 ·rintro listed a w1 hall ⟨g1,rfl,hI⟩
  exact hend _ _ (hI.ended S fun i hi=>hall i (by simpa using hi))
theorem rqD {id:Nat} (S:cW l T V ch St) (he:Region.earlier .any l.toArray=true) (h0:St 0 w) (hO:gA (gE n l T V ch St Pn g w) 0 l) (hpan:∀ c g w,Pn c w->Q (.panic c) (fr n ds g) w)
  (hend:∀ g' w',uM l T V ch.length St g w g' w'->Q .normal (fr n ds g') w'):Wp r (Code.region id l.toArray true) Q (fr n ds g) w:=
 rqDG S he h0 hO (fun c g w _=>hpan c g w) hend
theorem lq (S:cW l T V ch St) (he:Region.earlier .any l.toArray=true) (hgd:l.all (fun o=>match o.guard with | some (j,_)=>decide (j<l.length) | none=>true)=true) (h0:St 0 w) (hO:gA (gE n l T V ch St Pn g w) 0 l) (hpan:∀ c g w,Pn c w->Q (.panic c) (fr n ds g) w)
  (hend:∀ g' w',uM l T V ch.length St g w g' w'->dY r (l++r').toArray Q r' (fr n ds g') w'):dY r (l++r').toArray Q (l++r') (fr n ds g) w:=by
 have key:∀ (q:List Oper) (k:Nat) (g1:Nat->Value) (w1:World),l.drop k=q->k<=l.length->QI l T V ch St g w (fun i=>decide (i<k)) g1 w1->dY r (l++r').toArray Q (q++r') (fr n ds g1) w1:=by
  intro q
  induction q with
  | nil=>
   intro k g1 w1 hq hk hI
   have:k=l.length:=by have:=aD7 List.length hq;simp at this;omega
   subst this
   exact hend _ _ (hI.ended S fun i hi=>by simpa using hi)
  | cons o q ih=>
   intro k g1 w1 hq hk hI
   have hlt:k<l.length:=by
    have:=aD7 List.length hq
    simp at this;omega
   have hok:l[k]? = some o:=by
    have:=aD7 (·[0]?) hq
    simpa [List.getElem?_drop] using this
   have hyield:∀ t,yielded (l++r').toArray t=yielded (l++r').toArray t:=fun _=>rfl
   refine tI fun K hK=>?_
   have hst:=hI.step (r:=r) S hok (by simp) (fun j hj=>by
    unfold jY at hj
    obtain ⟨e,he2,rfl⟩:=aDc.1 hj
    have:=aCn.1 he2
    have:=Region.earlier_spec he (i:=k) (o:=o) (by simpa using hok) e (by simpa using this.1) this.2
    simpa using this) (by have:=oI hO k o hok;rwa [aDa] at this) hpan (K:=K) (fun g' w' hI'=>hK _ _ (ih (k+1) g' w' (by
     have:=aD7 (List.drop 1) hq
     simpa [List.drop_drop,Nat.add_comm] using this) hlt (by
     have:(fun i=>decide (i<k+1))=Fl (fun i=>decide (i<k)) k:=by
      funext j
      unfold Fl
      split
      ·rename_i e;subst e;simp
      ·rename_i e
       exact decide_eq_decide.2 (by omega)
     rw [this];exact hI')))
   have hwant:Region.wanted o (yielded (l++r').toArray (fr n ds g1).tmps)=Region.wanted o (yielded l.toArray (fr n ds g1).tmps):=by
    unfold Region.wanted
    cases hg:o.guard with
    | none=>rfl
    | some kb=>
     obtain ⟨j,b⟩:=kb
     have hj:j<l.length:=by
      have:=aB1.1 hgd o (List.mem_of_getElem? hok)
      rw [hg] at this;simpa using this
     have e:(l++r').toArray[j]? = l.toArray[j]? := by simp [List.getElem?_append_left hj]
     unfold yielded
     simp only [e]
   rw [hwant];exact hst
 exact key l 0 g w rfl (aDm _) (by
  have:(fun i=>decide (i<0))=fun _=>false:=by funext i;simp
  rw [this]
  exact QI.start S g w h0 (S.ofB (aDt _ _)) h0)
end
abbrev vE (x:Value):Value->World->Prop:=fun v _=>v=x
def Ah (V:List (Value->World->Prop)) (g:Nat->Value) (w:World):List (Nat × Nat)->Prop
 | []=>True
 | p::r=>kH V p.1 (g p.2) w/\Ah V g w r
def lI (g0 g:Nat->Value):List Nat->Prop
 | []=>True
 | s::r=>g s=g0 s/\lI g0 g r
def Wk (l:List Oper) (o:Oper) (js:List (Nat × Nat)):Bool:=js.all fun p=>(jY o).contains p.1&&((l[p.1]?).bind (·.dst) == some p.2)
theorem yD {V:List (Value->World->Prop)} {g:Nat->Value} (h:∀ j∈jY o,∀ oj d,l[j]? = some oj->oj.dst=some d->kH V j (g d) w):∀ {js:List (Nat × Nat)},Wk l o js=true->Ah V g w js
 | [],_=>trivial
 | p::r,hj=>by
  unfold Wk at hj
  simp only [aC1,aB0] at hj
  refine ⟨?_,yD h hj.2⟩
  have h2:=hj.1.2
  cases hl:l[p.1]? with
  | none=>rw [hl] at h2;simp at h2
  | some oj=>
   rw [hl] at h2
   exact h p.1 (by simpa using hj.1.1) oj p.2 hl (by simpa using h2)
theorem xN {g0 g:Nat->Value} (h:∀ s,AP l i s=true->g s=g0 s):∀ {ss:List Nat},ss.all (AP l i)=true->lI g0 g ss
 | [],_=>trivial
 | s::r,hj=>by
  simp only [aC1,aB0] at hj
  exact ⟨h s hj.1,xN h hj.2⟩
structure GV (G:Bool) (P:Value->World->Prop) (v:Value) (w:World):Prop where
 on:G=true->P v w
 off:G=false->v=undef
def GB (v:Value) (b G:Bool):Prop:=(G=true->v=.bool b)/\(G=false->v=.bool (!b)\/v=undef)
theorem YO {c:Bool} (h:v=.bool c):GB v true c:=⟨fun e=>by rw [h,e],fun e=>.inl (by rw [h,e];rfl)⟩
theorem YC {c:Bool} (h:v=.bool c):GB v false (!c):=⟨fun e=>(by rw [h];cases c <;> first | rfl | cases e),fun e=>.inl (by rw [h];cases c <;> first | rfl | cases e)⟩
theorem ZW {G:Bool} {c:Bool} (h:GV G (vE (.bool c)) v w):GB v true (G&&c):=by
 cases G with
 | true=>exact YO (h.1 rfl)
 | false=>exact ⟨fun e=>(by cases e),fun _=>.inr (h.2 rfl)⟩
theorem gbGF {G:Bool} {c:Bool} (h:GV G (vE (.bool c)) v w):GB v false (G&&!c):=by
 cases G with
 | true=>exact YC (h.1 rfl)
 | false=>exact ⟨fun e=>(by cases e),fun _=>.inr (h.2 rfl)⟩
theorem ar {a b:Bool} (h:(a&&b)=true):b=true:=by cases a <;> first | exact h | cases h
theorem nt {a:Bool} (h:(!a)=true):a=false:=by cases a <;> first | rfl | cases h
theorem tn {a:Bool} (h:a=false):(!a)=true:=by rw [h];rfl
theorem aa {a b:Bool} (h:a=true) (k:b=true):(a&&b)=true:=by rw [h,k];rfl
section
variable {n:Nat} {ds:List Deferred} {l:List Oper} {T:World->World->Prop} {V:List (Value->World->Prop)} {ch:List Nat} {St:Nat->World->Prop} {Pn:List PanicEntry->World->Prop} {g0 g:Nat->Value} {w0 w w':World} {i:Nat} {o:Oper}
  {op:Op} {ty:TypeId} {pos:String} {aft:Array Edge} {d:Option Tmp}
theorem ow (js:List (Nat × Nat)) (ss:List Nat) (S:cW l T V ch St) (hi:ch.contains i=false) (hjs:Wk l ⟨d,op,ty,pos,aft,none⟩ js=true) (hss:ss.all (AP l i)=true)
  (h:∀ g w,T w0 w->Ah V g w js->lI g0 g ss->tV n g ⟨d,op,ty,pos,aft,none⟩ w Pn fun v w'=>Below w.heap.size w w'/\kH V i v w'):gE n l T V ch St Pn g0 w0 i ⟨d,op,ty,pos,aft,none⟩:=by
 intro g w hT hd hs _ _
 have hi':i ∉ ch:=by simpa using hi
 refine ⟨fun _=>?_,fun hw=>(by cases hw)⟩
 have:=h g w hT (yD hd hjs) (xN hs hss)
 rcases this with ⟨v,w',hr,hb,hv⟩ | ⟨f,args,hr,hc⟩ | ⟨w',hr,hb,hv⟩
 ·exact .inl ⟨v,w',hr,S.ofB hb,hv,.inl ⟨hi',hb⟩⟩
 ·refine .inr (.inl ⟨f,args,hr,hc.mono ?_⟩)
  rintro e w' (⟨v,rfl,hb,hv⟩ | ⟨c,rfl,hp⟩)
  ·exact .inl ⟨v,rfl,S.ofB hb,hv,.inl ⟨hi',hb⟩⟩
  ·exact .inr ⟨c,rfl,hp⟩
 ·exact .inr (.inr ⟨w',hr,S.ofB hb,hv,.inl ⟨hi',hb⟩⟩)
theorem og {b:Bool} (G:Bool) (js:List (Nat × Nat)) (ss:List Nat) (S:cW l T V ch St) (hi:ch.contains i=false) (hjs:Wk l ⟨d,op,ty,pos,aft,some (k,b)⟩ ((k,kd)::js)=true) (hss:ss.all (AP l i)=true) (hkd:Nat.blt kd n=true)
  (hG:∀ v w,kH V k v w->GB v b G) (hu:∀ w,G=false->kH V i undef w)
  (h:G=true->∀ g w,T w0 w->Ah V g w js->lI g0 g ss->tV n g ⟨d,op,ty,pos,aft,some (k,b)⟩ w Pn fun v w'=>Below w.heap.size w w'/\kH V i v w'):gE n l T V ch St Pn g0 w0 i ⟨d,op,ty,pos,aft,some (k,b)⟩:=by
 intro g w hT hd hs _ _
 have hi':i ∉ ch:=by simpa using hi
 have hall:=yD hd hjs
 have hkn:kd<n:=by rw [aDw] at hkd;exact hkd
 have hgb:=hG _ _ hall.1
 have hkdst:(l[k]?).bind (·.dst)=some kd:=by
  unfold Wk at hjs
  simp only [aC1,aB0] at hjs
  simpa using hjs.1.2
 have hy:yielded l.toArray (fr n [] g).tmps k=match g kd with | .bool b=>some b | _=>none:=by
  unfold yielded
  have e:(l.toArray[k]?).bind (·.dst)=some kd:=by simpa using hkdst
  rw [e]
  simp only [Option.bind_some,Fc,aEc hkn]
  cases g kd <;> rfl
 have hw:Region.wanted ⟨d,op,ty,pos,aft,some (k,b)⟩ (yielded l.toArray (fr n [] g).tmps)=G:=by
  unfold Region.wanted
  simp only [hy]
  cases G with
  | true=>rw [hgb.1 rfl];cases b <;> rfl
  | false=>rcases hgb.2 rfl with e | e <;> rw [e] <;> cases b <;> rfl
 rw [hw]
 refine ⟨fun e=>?_,fun e=>⟨hi',hu w e⟩⟩
 have:=h e g w hT hall.2 (xN hs hss)
 rcases this with ⟨v,w',hr,hb,hv⟩ | ⟨f,args,hr,hc⟩ | ⟨w',hr,hb,hv⟩
 ·exact .inl ⟨v,w',hr,S.ofB hb,hv,.inl ⟨hi',hb⟩⟩
 ·refine .inr (.inl ⟨f,args,hr,hc.mono ?_⟩)
  rintro e w' (⟨v,rfl,hb,hv⟩ | ⟨c,rfl,hp⟩)
  ·exact .inl ⟨v,rfl,S.ofB hb,hv,.inl ⟨hi',hb⟩⟩
  ·exact .inr ⟨c,rfl,hp⟩
 ·exact .inr (.inr ⟨w',hr,S.ofB hb,hv,.inl ⟨hi',hb⟩⟩)
theorem oc (k) (js:List (Nat × Nat)) (ss:List Nat) (hk:ch[k]? = some i) (hjs:Wk l ⟨d,op,ty,pos,aft,none⟩ js=true) (hss:ss.all (AP l i)=true)
  (h:∀ g w,T w0 w->Ah V g w js->lI g0 g ss->St k w->tV n g ⟨d,op,ty,pos,aft,none⟩ w Pn fun v w'=>T w w'/\kH V i v w'/\St (k+1) w'):gE n l T V ch St Pn g0 w0 i ⟨d,op,ty,pos,aft,none⟩:=by
 intro g w hT hd hs hst _
 refine ⟨fun _=>?_,fun hw=>(by cases hw)⟩
 have:=h g w hT (yD hd hjs) (xN hs hss) (hst k hk)
 rcases this with ⟨v,w',hr,hb,hv,hst'⟩ | ⟨f,args,hr,hc⟩ | ⟨w',hr,hb,hv,hst'⟩
 ·exact .inl ⟨v,w',hr,hb,hv,.inr ⟨k,hk,hst'⟩⟩
 ·refine .inr (.inl ⟨f,args,hr,hc.mono ?_⟩)
  rintro e w' (⟨v,rfl,hb,hv,hst'⟩ | ⟨c,rfl,hp⟩)
  ·exact .inl ⟨v,rfl,hb,hv,.inr ⟨k,hk,hst'⟩⟩
  ·exact .inr ⟨c,rfl,hp⟩
 ·exact .inr (.inr ⟨w',hr,hb,hv,.inr ⟨k,hk,hst'⟩⟩)
def PF (l:List Oper) (ch:List Nat) (i:Nat):Bool:=match ch with | c::_=>((l[c]?).map fun o=>(jY o).contains i).getD false | []=>false
theorem ol (js:List (Nat × Nat)) (ss:List Nat) (S:cW l T V ch St) (hi:ch.contains i=false) (hf:PF l ch i=true) (hjs:Wk l ⟨d,op,ty,pos,aft,none⟩ js=true) (hss:ss.all (AP l i)=true)
  (h:∀ g w,T w0 w->Ah V g w js->lI g0 g ss->St 0 w->tV n g ⟨d,op,ty,pos,aft,none⟩ w Pn fun v w'=>Below w.heap.size w w'/\kH V i v w'):gE n l T V ch St Pn g0 w0 i ⟨d,op,ty,pos,aft,none⟩:=by
 intro g w hT hd hs _ h0
 have hi':i ∉ ch:=by simpa using hi
 refine ⟨fun _=>?_,fun hw=>(by cases hw)⟩
 have hst:St 0 w:=by
  unfold PF at hf
  cases hc:ch with
  | nil=>rw [hc] at hf;cases hf
  | cons c r=>
   rw [hc] at hf
   simp only at hf
   cases ho:l[c]? with
   | none=>rw [ho] at hf;cases hf
   | some oc=>rw [ho] at hf;exact h0 c oc (by rw [hc];rfl) ho (by simpa using hf)
 have:=h g w hT (yD hd hjs) (xN hs hss) hst
 rcases this with ⟨v,w',hr,hb,hv⟩ | ⟨f,args,hr,hc⟩ | ⟨w',hr,hb,hv⟩
 ·exact .inl ⟨v,w',hr,S.ofB hb,hv,.inl ⟨hi',hb⟩⟩
 ·refine .inr (.inl ⟨f,args,hr,hc.mono ?_⟩)
  rintro e w' (⟨v,rfl,hb,hv⟩ | ⟨c,rfl,hp⟩)
  ·exact .inl ⟨v,rfl,S.ofB hb,hv,.inl ⟨hi',hb⟩⟩
  ·exact .inr ⟨c,rfl,hp⟩
 ·exact .inr (.inr ⟨w',hr,S.ofB hb,hv,.inl ⟨hi',hb⟩⟩)
theorem dv {R:Value->World->Prop} (h:aL n g o w v) (hR:R v w):tV n g o w Pn (fun v w'=>Below w.heap.size w w'/\R v w'):=.inl ⟨v,w,h,aDt _ _,hR⟩
def cT (f:FuncId) (args:List Value) (w:World) (R:Value->World->Prop):Prop:=Calls prog f args.toArray w fun e w'=>∃ v,e=.returned v/\Below w.heap.size w w'/\R v w'
theorem dc {R:Value->World->Prop} {xs:List Operand} (hx:ev n g x=.func (.func f) #[] caps.toArray) (ha:args=xs.map (ev n g)++caps)
  (hf:∀ args w,(callFunc f args).run prog w=.ok (.enter f args) w) (hc:cT f args w R):tV n g ⟨d,.call ⟨.value x,xs.toArray,ts⟩,ty,pos,aft,gd⟩ w Pn (fun v w'=>Below w.heap.size w w'/\R v w'):=by
 subst ha
 refine .inr (.inl ⟨f,(xs.map (ev n g)++caps).toArray,?_,hc.mono fun e w' ⟨v,he,h⟩=>.inl ⟨v,he,h⟩⟩)
 unfold execOp
 simp [resolve,hx,Deferred.ofValue,invoke,hf]
theorem gV {R:Value->World->Prop} {xs:List Operand} (ha:args=xs.map (ev n g))
  (hf:∀ args w,(callFunc f args).run prog w=.ok (.enter f args) w) (hc:cT f args w R):tV n g ⟨d,.call ⟨.value (.func f),xs.toArray,ts⟩,ty,pos,aft,gd⟩ w Pn (fun v w'=>Below w.heap.size w w'/\R v w'):=
 dc (caps:=[]) rfl (by rw [ha,aCl]) hf hc
theorem cT.mono {R R':Value->World->Prop} (h:cT f args w R) (k:∀ v w',Below w.heap.size w w'->R v w'->R' v w'):cT f args w R':=aDx h fun _ _ ⟨v,e,hb,hr⟩=>⟨v,e,hb,k v _ hb hr⟩
theorem cG {g:Nat->Value} {C A:Bool} (hx:ev n g x=.bool C) (hy:C=true->ev n g y=.bool A):aL n g ⟨dd,.pick x y (.const (.bool false)),ty,pos,aft,gd⟩ w (.bool (C&&A)):=by
 cases C with
 | true=>rw [Bool.true_and,<- hy rfl];exact uK hx
 | false=>exact DE (z:=.const (.bool false)) hx
theorem dA {g:Nat->Value} {C A:Bool} (hx:ev n g x=.bool C) (hz:C=false->ev n g z=.bool A):aL n g ⟨dd,.pick x (.const (.bool true)) z,ty,pos,aft,gd⟩ w (.bool (C||A)):=by
 cases C with
 | true=>exact uK (y:=.const (.bool true)) hx
 | false=>rw [Bool.false_or,<- hz rfl];exact DE hx
end
def Yy (P:Value->World->Prop):Prop:=∀ v (a b:World),P v a->Below a.heap.size a b->P v b
def Pr:List (Value->World->Prop)->Prop
 | []=>True
 | P::r=>Yy P/\Pr r
theorem aA: Yy (vE t):=fun _ _ _ h _=>h
theorem VV {P:Value->Prop}:Yy (fun v _=>P v):=fun _ _ _ h _=>h
theorem aD {G:Bool} {P:Value->World->Prop} (h:Yy P):Yy (GV G P):=fun v a b hv hb=>⟨fun e=>h v a b (hv.1 e) hb,hv.2⟩
def RQ (_:List PanicEntry) (_:World):Prop:=False
abbrev BT (a b:World):Prop:=Below a.heap.size a b
abbrev Ei (_:Nat) (_:World):Prop:=True
theorem Rz: ∀ {V:List (Value->World->Prop)},Pr V->∀ i v (a b:World),kH V i v a->Below a.heap.size a b->kH V i v b
 | [],_,i,v,a,b,_,_=>trivial
 | P::r,h,0,v,a,b,hv,hb=>h.1 v a b hv hb
 | P::r,h,i+1,v,a,b,hv,hb=>Rz (V:=r) h.2 i v a b hv hb
theorem lG {V:List (Value->World->Prop)} (h1:iS (qL l)=true) (h2:Pr V):cW l BT V [] Ei where
 dst:=h1
 chn:=rfl
 chl:=rfl
 chain:=rfl
 tr:=fun h k=>aDu h k
 ofB:=fun h=>h
 vT:=fun i v a b hv hb=>Rz h2 i v a b hv (hb.elim id (·.1))
 sB:=fun _ _ _ _ _=>trivial
section
variable {r:Option Nat} {n:Nat} {ds:List Deferred} {g:Nat->Value} {w:World} {Q:Exit->Act->World->Prop} {l L:List Oper} {y:Code} {id:Nat} {V:List (Value->World->Prop)} {ops:Array Oper} {ty:TypeId} {pos:String} {aft:Array Edge} {d:Tmp}
def Fy (V:List (Value->World->Prop)) (g:Nat->Value) (w:World):List (Nat × Nat)->Prop
 | []=>True
 | p::r=>kH V p.1 (g p.2) w/\Fy V g w r
def Fs (l:List Oper) (js:List (Nat × Nat)):Bool:=js.all fun p=>((l[p.1]?).bind (·.dst)) == some p.2
theorem Cs {g0:Nat->Value} (h:uM l BT V 0 Ei g0 w0 g w'):∀ {js:List (Nat × Nat)},Fs l js=true->Fy V g w' js
 | [],_=>trivial
 | p::r,hj=>by
  unfold Fs at hj
  simp only [aC1,aB0] at hj
  refine ⟨?_,Cs h hj.2⟩
  have h2:=hj.1
  cases hl:l[p.1]? with
  | none=>rw [hl] at h2;simp at h2
  | some oj=>
   rw [hl] at h2
   exact h.2.1 p.1 oj p.2 hl (by simpa using h2)
theorem Cu {g0:Nat->Value} (h:uM l BT V 0 Ei g0 w0 g w'):∀ {ss:List Nat},ss.all (dB l)=true->lI g0 g ss
 | [],_=>trivial
 | s::r,hj=>by
  simp only [aC1,aB0] at hj
  exact ⟨h.2.2.1 s hj.1,Cu h hj.2⟩
theorem eD (V:List (Value->World->Prop)) (js:List (Nat × Nat)) (ss:List Nat) (h1:iS (qL l)=true) (h2:Pr V) (he:Region.earlier .any l.toArray=true) (hjs:Fs l js=true) (hss:ss.all (dB l)=true)
  (hO:cW l BT V [] Ei->gA (gE n l BT V [] Ei RQ g w) 0 l)
  (h:∀ g' w',Below w.heap.size w w'->Fy V g' w' js->lI g g' ss->Q .normal (fr n ds g') w'):Wp r (Code.region id l.toArray true) Q (fr n ds g) w:=
 rqD (lG h1 h2) he trivial (hO (lG h1 h2)) (fun _ _ _ h=>h.elim) fun g' w' hE=>h g' w' hE.1 (Cs hE hjs) (Cu hE hss)
theorem sD (V:List (Value->World->Prop)) (js:List (Nat × Nat)) (ss:List Nat) (h1:iS (qL l)=true) (h2:Pr V) (he:Region.earlier .any l.toArray=true) (hjs:Fs l js=true) (hss:ss.all (dB l)=true)
  (hO:cW l BT V [] Ei->gA (gE n l BT V [] Ei RQ g w) 0 l)
  (h:∀ g' w',Below w.heap.size w w'->Fy V g' w' js->lI g g' ss->Wp r y Q (fr n ds g') w'):Wp r ((Code.region id l.toArray true).seq y) Q (fr n ds g) w:=
 aF (eD V js ss h1 h2 he hjs hss hO h)
def iQ (l:List Oper):Bool:=l.all (fun o=>match o.guard with | some (j,_)=>decide (j<l.length) | none=>true)
theorem eQ (V:List (Value->World->Prop)) (js:List (Nat × Nat)) (ss:List Nat) (h1:iS (qL l)=true) (h2:Pr V) (he:Region.earlier .any l.toArray=true) (hgd:iQ l=true) (hjs:Fs l js=true) (hss:ss.all (dB l)=true)
  (hO:cW l BT V [] Ei->gA (gE n l BT V [] Ei RQ g w) 0 l)
  (h:∀ g' w',Below w.heap.size w w'->Fy V g' w' js->lI g g' ss->Q .normal (fr n ds g') w'):Wp r (Code.region id l.toArray false) Q (fr n ds g) w:=by
 refine yX ?_
 have:=lq (r:=r) (n:=n) (ds:=ds) (Q:=Q) (g:=g) (w:=w) (Pn:=RQ) (l:=l) (r':=[]) (lG h1 h2) he hgd trivial (hO (lG h1 h2)) (fun _ _ _ h=>h.elim) fun g' w' hE=>h g' w' hE.1 (Cs hE hjs) (Cu hE hss)
 rwa [aCl] at this
theorem sQ (V:List (Value->World->Prop)) (js:List (Nat × Nat)) (ss:List Nat) (h1:iS (qL l)=true) (h2:Pr V) (he:Region.earlier .any l.toArray=true) (hgd:iQ l=true) (hjs:Fs l js=true) (hss:ss.all (dB l)=true)
  (hO:cW l BT V [] Ei->gA (gE n l BT V [] Ei RQ g w) 0 l)
  (h:∀ g' w',Below w.heap.size w w'->Fy V g' w' js->lI g g' ss->Wp r y Q (fr n ds g') w'):Wp r ((Code.region id l.toArray false).seq y) Q (fr n ds g) w:=
 aF (eQ V js ss h1 h2 he hgd hjs hss hO h)
theorem RC {xs:List Operand} {R:Value->World->Prop} (hf:∀ args w,(callFunc f args).run prog w=.ok (.enter f args) w) (hx:ev n g x=.func (.func f) #[] caps.toArray)
  (ha:args=xs.map (ev n g)++caps) (hc:cT f args w R) (h:∀ v w',Below w.heap.size w w'->R v w'->dY r ops Q l (fr n ds (up g d v)) w'):
  dY r ops Q (⟨some d,.call ⟨.value x,xs.toArray,ts⟩,ty,pos,aft,none⟩::l) (fr n ds g) w:=
 cl hf hx hc (by subst ha;simp) fun _ _ ⟨v,e,hb,hr⟩=>⟨v,e,h v _ hb hr⟩
theorem cE {xs:List Operand} {R:Value->World->Prop} (hf:∀ args w,(callFunc f args).run prog w=.ok (.enter f args) w)
  (ha:args=xs.map (ev n g)) (hc:cT f args w R) (h:∀ v w',Below w.heap.size w w'->R v w'->dY r ops Q l (fr n ds (up g d v)) w'):
  dY r ops Q (⟨some d,.call ⟨.value (.func f),xs.toArray,ts⟩,ty,pos,aft,none⟩::l) (fr n ds g) w:=
 RC (caps:=[]) hf rfl (by rw [ha,aCl]) hc h
theorem a1 (h:ev n g x=v):[v]=[x].map (ev n g):=by simp [h]
theorem a2 (h:ev n g x=v) (h2:ev n g x2=v2):[v,v2]=[x,x2].map (ev n g):=by simp [h,h2]
theorem a3 (h:ev n g x=v) (h2:ev n g x2=v2) (h3:ev n g x3=v3):[v,v2,v3]=[x,x2,x3].map (ev n g):=by simp [h,h2,h3]
theorem a4 (h:ev n g x=v) (h2:ev n g x2=v2) (h3:ev n g x3=v3) (h4:ev n g x4=v4):[v,v2,v3,v4]=[x,x2,x3,x4].map (ev n g):=by simp [h,h2,h3,h4]
theorem oM (h:Calls prog f args.toArray w fun e w'=>e=.returned v/\Below w.heap.size w w'):cT f args w fun u _=>u=v:=h.mono fun _ _ ⟨e,hb⟩=>⟨v,e,hb,rfl⟩
theorem Dc (h:Calls prog f args.toArray w fun e w'=>e=.returned v/\w'=w):cT f args w fun u _=>u=v:=h.mono fun _ _ ⟨e,hb⟩=>⟨v,e,by subst hb;exact aDt _ _,rfl⟩
theorem AQ (h:Calls prog f args.toArray w fun e w'=>e=.returned v/\w=w'):cT f args w fun u _=>u=v:=h.mono fun _ _ ⟨e,hb⟩=>⟨v,e,by subst hb;exact aDt _ _,rfl⟩
theorem bT {R:Value->World->Prop} {t:Tmp} (hr:fn.results=#[.tmp t]) (hb:Below w0.heap.size w0 w) (h:R (ev n g (.tmp t)) w):bodyPost prog fn (fun e w'=>∃ v,e=.returned v/\Below w0.heap.size w0 w'/\R v w') .ret (fr n [] g) w:=
 fO hr ⟨_,rfl,hb,h⟩
theorem Tm {R:Value->World->Prop} {t u:Tmp} (hr:fn.results=#[.tmp t,.tmp u]) (hb:Below w0.heap.size w0 w) (h:R (.tuple #[ev n g (.tmp t),ev n g (.tmp u)]) w):bodyPost prog fn (fun e w'=>∃ v,e=.returned v/\Below w0.heap.size w0 w'/\R v w') .ret (fr n [] g) w:=
 wJ hr ⟨_,rfl,hb,h⟩
def bp (n:Nat) (ds:List Deferred) (C B:Nat) (K:(Nat->Value)->World->Prop) (Q:Exit->Act->World->Prop):Exit->Act->World->Prop:=
 Exit.inBlock C (fun e a w=>match e with | .normal=>∃ g,a=fr n ds g/\K g w | e=>Exit.inBlock B Q e a w)
theorem dO {K:(Nat->Value)->World->Prop} (h:K g w):bp n ds C B K Q .normal (fr n ds g) w:=⟨g,rfl,h⟩
theorem bD {B C r1 r2 ti tn tb tj:Nat} {t1 t2 t3 t4:TypeId} {body:Code} {d1 d2 d3:TypeId} {p1 p2 p3:String} {e1 e2 e3:Array Edge} (J:Nat->(Nat->Value)->World->Prop) (N:Nat) (hN:N<9223372036854775807)
  (hi:∀ k g w,J k g w->ev n g (.tmp ti)=zi (k:Int)/\ev n g (.tmp tn)=zi (N:Int)) (h0:J 0 g w) (htb:Nat.blt tb n=true) (htj:Nat.blt tj n=true)
  (hup:∀ k g w v,J k g w->J k (up g tb v) w)
  (hbody:∀ k g w,k<N->J k g w->Wp r body (bp n ds C B (fun g' w'=>J (k+1) (up (up g' tj (zi ((k+1:Nat):Int))) ti (zi ((k+1:Nat):Int))) w'/\ev n g' (.tmp ti)=zi (k:Int)) Q) (fr n ds g) w)
  (hend:∀ g w,J N g w->Q .normal (fr n ds g) w):
  Wp r (Code.block B (Code.loop ((Code.region r1 [⟨some tb,.binOp .lss t1 (.tmp ti) (.tmp tn) t2,d1,p1,e1,none⟩].toArray false).seq ((Code.cond (.tmp tb) .skip (.exit B)).seq ((Code.block C body).seq
   (Code.region r2 [⟨some tj,.binOp .add t3 (.tmp ti) (.const (zi 1)) t4,d2,p2,e2,none⟩,⟨some ti,.move (.tmp tj),d3,p3,e3,none⟩].toArray false)))))) Q (fr n ds g) w:=by
 refine aO (lp (fun m g w=>∃ k,m=N - k/\k<=N/\J k g w) N ⟨0,rfl,aDm _,h0⟩ ?_)
 rintro m g w ⟨k,rfl,hk,hJ⟩
 have hJ0:=hi k g w hJ
 refine rg (sq (ZK hJ0.1 hJ0.2) (nx ?_))
 have htmp:ev n (up g tb (.bool (decide (k<N)))) (.tmp tb)=.bool (decide (k<N)):=by
  show (bif Nat.blt tb n then up g tb _ tb else undef)=_
  rw [htb,Bi];rfl
 refine aF (cd htmp (fun ht=>?_) (fun hf=>?_))
 ·have hlt:k<N:=aBp ht
  refine aG ?_
  refine aF (aO (vH (hbody k _ w hlt (hup k g w _ hJ)) ?_))
  have key:∀ a w1,(∃ g,a=fr n ds g/\(J (k+1) (up (up g tj (zi ((k+1:Nat):Int))) ti (zi ((k+1:Nat):Int))) w1/\ev n g (.tmp ti)=zi (k:Int))) ->
    Wp r (Code.region r2 [⟨some tj,.binOp .add t3 (.tmp ti) (.const (zi 1)) t4,d2,p2,e2,none⟩,⟨some ti,.move (.tmp tj),d3,p3,e3,none⟩].toArray false) (Exit.then (Oi n ds (fun m g w=>∃ k,m=N - k/\k<=N/\J k g w) (N - k)) (Exit.inBlock B Q)) a w1:=by
   rintro a w1 ⟨g1,rfl,hJ1,hti⟩
   refine eO (sq (r_inc hti rfl (by omega)) (sq (v:=zi ((k+1:Nat):Int)) ?_ ?_))
   ·have:ev n (up g1 tj (zi ((k+1:Nat):Int))) (.tmp tj)=zi ((k+1:Nat):Int):=by
     show (bif Nat.blt tj n then up g1 tj _ tj else undef)=_
     rw [htj,Bi];rfl
    have hr:=aT (dd:=some ti) (ty:=d3) (pos:=p3) (aft:=e3) (gd:=none) (w:=w1) (x:=.tmp tj) (n:=n) (g:=up g1 tj (zi ((k+1:Nat):Int)))
    rw [this] at hr;exact hr
   ·exact nl (fC (m':=N - (k+1)) (by omega) ⟨k+1,rfl,by omega,hJ1⟩)
  rintro e a w1 hq
  cases e with
  | normal=>exact key a w1 hq
  | exit id=>
   unfold bp Exit.inBlock at hq
   unfold Exit.inBlock
   simp only at hq ⊢
   split at hq
   ·rename_i e;rw [aEc e];exact key a w1 hq
   ·rename_i e;rw [aEd e];exact hq
  | ret=>exact hq
  | goto l=>exact hq
  | panic c=>exact hq
  | outgrown=>exact hq
 ·have:k=N:=by have:=aBe hf;omega
  subst this
  refine cI ?_
  show Exit.inBlock B Q (.exit B) _ _
  show (if B=B then Q .normal _ _ else Q (.exit B) _ _)
  rw [aEc rfl]
  exact hend _ _ (hup _ _ _ _ hJ)
def qZ (cs:List Value) (k:Nat):List Value->List Value
 | []=>cs
 | v::r=>qZ (cs.set k v) (k+1) r
theorem FZ: ∀ (vs cs:List Value) (k:Nat),(qZ cs k vs).length=cs.length
 | [],_,_=>rfl
 | v::r,cs,k=>(FZ r (cs.set k v) (k+1)).trans (aCq ..)
theorem gJ (j:Nat):∀ (vs:List Value) (i:Nat) (cs:List Value) (w:World),Bk b cs t w->vs.all (·.oneCell')=true->j+i+vs.length<=cs.length ->
  ∃ w',(storeCells ⟨b,j,none⟩ vs i).run prog w=.ok () w'/\Bk b (qZ cs (j+i) vs) t w'/\aS b w w'/\w'.heap.size=w.heap.size
 | [],i,cs,w,hB,_,_=>⟨w,rfl,hB,aS.refl b w,rfl⟩
 | v::r,i,cs,w,hB,h1,hj=>by
  simp only [aC1,aB0] at h1
  simp only [aB3] at hj
  have hlt:j+i<cs.length:=by omega
  have hc:w.cell? ⟨b,j+i,none⟩=some cs[j+i]:=hB.cell (j+i) (List.getElem?_eq_getElem hlt)
  obtain ⟨w',hr,hB',hO,hz⟩:=gJ j r (i+1) (cs.set (j+i) v) _ (hB.set (j+i) v) h1.2 (by rw [aCq];omega)
  refine ⟨w',?_,hB',(aS.setCell (aS.refl b w) (j+i) v).trans hO,hz.trans (by simp [World.setCell])⟩
  unfold storeCells
  simp only [aDe,aDf]
  rw [run_store prog w _ _ _ h1.1,hc,hB.frozen (j+i)]
  exact hr
variable {x y':Operand} {t:TypeId}
theorem KO (hB:Bk b cs td w) (hs:∀ w,(sizeOf t).run prog w=.ok vs.length w) (hx:ev n g x=pt b j) (hy:ev n g y'=.agg vs.toArray) (h1:vs.all (·.oneCell')=true) (hj:Nat.ble (j+vs.length) cs.length=true)
  (h:∀ w',Bk b (qZ cs j vs) td w'->aS b w w'->w'.heap.size=w.heap.size->dY r ops Q l (fr n ds g) w'):dY r ops Q (⟨none,.store t x y',ty,pos,aft,none⟩::l) (fr n ds g) w:=by
 refine eM rfl fun K hK=>?_
 obtain ⟨w',hr',hB',hO,hz⟩:=gJ j vs 0 cs w hB h1 (aA1 hj)
 have hr:(execOp (ev n g) ⟨none,.store t x y',ty,pos,aft,none⟩).run prog w=.ok .skip w':=by
  unfold execOp
  simp [hx,hy,Instr.storeAt,Instr.sureAddr,storeVar,hs,Value.cells,hr']
 exact qK (by rw [bV];exact hr) (hK _ _ (h _ hB' hO hz))
end
theorem r_fa' {g:Nat->Value} {ty:TypeId} {s f sz ft fo:Nat} (hu:prog.underlying s=some (.struct fs)) (hf:(fs[f]?).map (fun d=>(d.type,d.offset))=some (ft,fo)) (hs:∀ w,(sizeOf ft).run prog w=.ok sz w) (hz:Nat.beq sz 0=false) (hx:ev n g x=pt b o):aL n g ⟨dd,.fieldAddr s x f,ty,pos,aft,gd⟩ w (pt b (o+fo)):=by
 cases h:fs[f]? with
 | none=>rw [h] at hf;cases hf
 | some d=>
  rw [h] at hf
  simp only [Option.map_some,aBv,Prod.mk.injEq] at hf
  obtain ⟨rfl,rfl⟩:=hf
  exact r_fa hu h hs hz hx
abbrev FA (s f fo:Nat):Prop:=∀ {n:Nat} {g:Nat->Value} {w:World} {dd:Option Tmp} {ty:TypeId} {pos:String} {aft:Array Edge} {gd:Option (Nat × Bool)} {x:Operand} {b o:Nat},ev n g x=pt b o->aL n g ⟨dd,.fieldAddr s x f,ty,pos,aft,gd⟩ w (pt b (o+fo))
theorem rF (hu:prog.underlying s=some (.struct fs)) (hs:∀ w,(sizeOf ft).run prog w=.ok sz w) (hf:((fs[f]?).map (fun d=>(d.type,d.offset)),Nat.beq sz 0)=(some (ft,fo),false)):FA s f fo:=fun h=>r_fa' hu (aDo hf).1 hs (aDo hf).2 h
abbrev LD (t:Nat):Prop:=∀ {n:Nat} {g:Nat->Value} {w:World} {dd:Option Tmp} {ty:TypeId} {pos:String} {aft:Array Edge} {gd:Option (Nat × Bool)} {x:Operand} {ad:Addr} {v:Value},ev n g x=.pointer (some ad)->w.cell? ad=some v->aL n g ⟨dd,.load t x,ty,pos,aft,gd⟩ w v
abbrev LR (t k:Nat):Prop:=∀ {n:Nat} {g:Nat->Value} {w:World} {dd:Option Tmp} {ty:TypeId} {pos:String} {aft:Array Edge} {gd:Option (Nat × Bool)} {x:Operand} {b o:Nat} {cs:List Value},ev n g x=pt b o->w.rangeAt b o cs->cs.length=k->aL n g ⟨dd,.load t x,ty,pos,aft,gd⟩ w (.agg cs.toArray)
abbrev EN (f:FuncId):Prop:=∀ args w,(callFunc f args).run prog w=.ok (.enter f args) w
section
variable {n:Nat} {g:Nat->Value} {w:World} {dd:Option Tmp} {ty:TypeId} {pos:String} {aft:Array Edge} {gd:Option (Nat × Bool)} {x:Operand} {b o:Nat} {ad:Addr} {v:Value} {cs:List Value}
theorem IY: FA 25 0 0:=rF underlying25 sizeOf2 rfl
theorem WY: FA 25 1 1:=rF underlying25 sizeOf2 rfl
theorem Pe: FA 25 2 2:=rF underlying25 sizeOf2 rfl
theorem XQ: FA 27 0 0:=rF underlying27 sizeOf2 rfl
theorem WZ: FA 27 1 1:=rF underlying27 sizeOf2 rfl
theorem WA: FA 27 2 2:=rF underlying27 sizeOf2 rfl
theorem XH: FA 27 3 3:=rF underlying27 sizeOf2 rfl
theorem WW: FA 27 4 4:=rF underlying27 sizeOf2 rfl
theorem vR: FA 29 0 0:=rF underlying29 sizeOf3 rfl
theorem nJ: FA 29 1 1:=rF underlying29 sizeOf23 rfl
theorem sL: FA 29 2 2:=rF underlying29 sizeOf25 rfl
theorem zK: FA 29 3 5:=rF underlying29 sizeOf2 rfl
theorem IB: FA 29 4 6:=rF underlying29 sizeOf2 rfl
theorem vG: FA 29 5 7:=rF underlying29 sizeOf27 rfl
theorem wA: FA 32 0 0:=rF underlying32 sizeOf2 rfl
theorem qN: FA 32 1 1:=rF underlying32 sizeOf30 rfl
theorem vF: FA 41 0 0:=rF underlying41 sizeOf29 rfl
theorem zJ: FA 41 1 12:=rF underlying41 sizeOf2 rfl
theorem vO: FA 41 2 13:=rF underlying41 sizeOf32 rfl
theorem Ch: FA 41 3 15:=rF underlying41 sizeOf33 rfl
theorem vK: FA 41 4 16:=rF underlying41 sizeOf34 rfl
theorem Ca: FA 41 5 17:=rF underlying41 sizeOf35 rfl
theorem vU: FA 41 6 18:=rF underlying41 sizeOf36 rfl
theorem CI: FA 41 7 19:=rF underlying41 sizeOf37 rfl
theorem Bz: FA 41 8 20:=rF underlying41 sizeOf38 rfl
theorem CF: FA 41 9 21:=rF underlying41 sizeOf39 rfl
theorem Bt: FA 41 10 22:=rF underlying41 sizeOf4 rfl
theorem qR: FA 57 0 0:=rF underlying57 sizeOf54 rfl
theorem sZ: FA 70 0 0:=rF underlying70 sizeOf2 rfl
theorem An: FA 70 1 1:=rF underlying70 sizeOf2 rfl
theorem Fi: FA 70 2 2:=rF underlying70 sizeOf2 rfl
theorem Xk: FA 70 3 3:=rF underlying70 sizeOf4 rfl
theorem XA: FA 70 4 4:=rF underlying70 sizeOf4 rfl
theorem sC: FA 70 5 5:=rF underlying70 sizeOf67 rfl
theorem IF: FA 70 6 6:=rF underlying70 sizeOf68 rfl
theorem rB: FA 86 0 0:=rF underlying86 sizeOf9 rfl
theorem PT: FA 86 1 1:=rF underlying86 sizeOf4 rfl
theorem wF: FA 86 2 2:=rF underlying86 sizeOf1 rfl
theorem JF: FA 97 0 0:=rF underlying97 sizeOf9 rfl
theorem Hz: FA 97 1 1:=rF underlying97 sizeOf2 rfl
theorem Ig: FA 97 2 2:=rF underlying97 sizeOf2 rfl
theorem Ex: FA 97 3 3:=rF underlying97 sizeOf2 rfl
theorem vL: FA 97 4 4:=rF underlying97 sizeOf93 rfl
theorem wH: FA 97 5 5:=rF underlying97 sizeOf2 rfl
theorem Ih: FA 97 6 6:=rF underlying97 sizeOf2 rfl
theorem IU: FA 97 7 7:=rF underlying97 sizeOf2 rfl
theorem Fr: FA 97 8 8:=rF underlying97 sizeOf9 rfl
theorem Fj: FA 97 9 9:=rF underlying97 sizeOf94 rfl
theorem Bu: FA 97 10 10:=rF underlying97 sizeOf95 rfl
theorem yF: FA 97 11 11:=rF underlying97 sizeOf95 rfl
theorem vN: FA 99 0 0:=rF underlying99 sizeOf2 rfl
theorem Ed: FA 99 1 1:=rF underlying99 sizeOf97 rfl
theorem tC: FA 99 2 13:=rF underlying99 sizeOf5 rfl
theorem Es: FA 99 3 14:=rF underlying99 sizeOf4 rfl
theorem Ip: FA 99 4 15:=rF underlying99 sizeOf4 rfl
theorem EA: FA 99 5 16:=rF underlying99 sizeOf2 rfl
theorem Fe: FA 99 6 17:=rF underlying99 sizeOf2 rfl
theorem Ff: FA 99 7 18:=rF underlying99 sizeOf2 rfl
theorem TF: FA 101 0 0:=rF underlying101 sizeOf42 rfl
theorem Bl: FA 109 0 0:=rF underlying109 sizeOf2 rfl
theorem Bv: FA 109 1 1:=rF underlying109 sizeOf9 rfl
theorem Kk: FA 109 2 2:=rF underlying109 sizeOf9 rfl
theorem Ba: FA 109 3 3:=rF underlying109 sizeOf9 rfl
theorem Ld: FA 109 4 4:=rF underlying109 sizeOf4 rfl
theorem tE: FA 109 5 5:=rF underlying109 sizeOf67 rfl
theorem tH: FA 109 6 6:=rF underlying109 sizeOf39 rfl
theorem gW: FA 112 0 0:=rF underlying112 sizeOf2 rfl
theorem gX: FA 112 1 1:=rF underlying112 sizeOf2 rfl
theorem AY: FA 119 0 0:=rF underlying119 sizeOf9 rfl
theorem tM: FA 119 1 1:=rF underlying119 sizeOf2 rfl
theorem yG: FA 124 0 0:=rF underlying124 sizeOf2 rfl
theorem Tz: FA 124 1 1:=rF underlying124 sizeOf4 rfl
theorem Fk: FA 124 2 2:=rF underlying124 sizeOf2 rfl
theorem Fa: FA 124 3 3:=rF underlying124 sizeOf2 rfl
theorem EJ: FA 124 4 4:=rF underlying124 sizeOf2 rfl
theorem Kf: FA 124 5 5:=rF underlying124 sizeOf2 rfl
theorem Kp: FA 128 0 0:=rF underlying128 sizeOf4 rfl
theorem UG: FA 128 1 1:=rF underlying128 sizeOf4 rfl
theorem Bg: FA 128 2 2:=rF underlying128 sizeOf2 rfl
theorem Bj: FA 132 0 0:=rF underlying132 sizeOf9 rfl
theorem EB: FA 132 1 1:=rF underlying132 sizeOf2 rfl
theorem UP: FA 136 0 0:=rF underlying136 sizeOf2 rfl
theorem Ul: FA 136 1 1:=rF underlying136 sizeOf2 rfl
theorem RY: FA 136 2 2:=rF underlying136 sizeOf2 rfl
theorem UB: FA 136 3 3:=rF underlying136 sizeOf2 rfl
theorem Tq: FA 136 4 4:=rF underlying136 sizeOf2 rfl
theorem Tf: FA 136 5 5:=rF underlying136 sizeOf2 rfl
theorem Uo: FA 138 0 0:=rF underlying138 sizeOf2 rfl
theorem SP: FA 138 1 1:=rF underlying138 sizeOf2 rfl
theorem Sj: FA 138 2 2:=rF underlying138 sizeOf2 rfl
theorem Un: FA 140 0 0:=rF underlying140 sizeOf2 rfl
theorem Uf: FA 140 1 1:=rF underlying140 sizeOf3 rfl
theorem tJ: FA 140 2 2:=rF underlying140 sizeOf136 rfl
theorem El: FA 140 3 8:=rF underlying140 sizeOf138 rfl
theorem Bh: FA 143 0 0:=rF underlying143 sizeOf9 rfl
theorem JK: FA 143 1 1:=rF underlying143 sizeOf2 rfl
theorem KZ: FA 143 2 2:=rF underlying143 sizeOf2 rfl
theorem Kj: FA 143 3 3:=rF underlying143 sizeOf2 rfl
theorem Kh: FA 143 4 4:=rF underlying143 sizeOf4 rfl
theorem jB: FA 150 0 0:=rF underlying150 sizeOf148 rfl
theorem Ka: FA 191 0 0:=rF underlying191 sizeOf2 rfl
theorem KP: FA 191 1 1:=rF underlying191 sizeOf9 rfl
theorem yC: FA 209 0 0:=rF underlying209 sizeOf54 rfl
theorem fU: FA 215 0 0:=rF underlying215 sizeOf97 rfl
theorem KI: FA 215 1 12:=rF underlying215 sizeOf3 rfl
theorem KX: FA 215 2 13:=rF underlying215 sizeOf213 rfl
theorem xL: FA 220 0 0:=rF underlying220 sizeOf5 rfl
theorem Br: FA 220 1 1:=rF underlying220 sizeOf9 rfl
theorem Tg: FA 220 2 2:=rF underlying220 sizeOf9 rfl
theorem Bc: FA 220 3 3:=rF underlying220 sizeOf2 rfl
theorem Ef: FA 245 0 0:=rF underlying245 sizeOf2 rfl
theorem Vo: FA 245 1 1:=rF underlying245 sizeOf4 rfl
theorem YJ: LD 1:=lR isAgg1
theorem cZ: LD 2:=lR isAgg2
theorem EI: LD 3:=lR isAgg3
theorem DB: LD 4:=lR isAgg4
theorem Nr: LD 5:=lR isAgg5
theorem nY: LD 9:=lR isAgg9
theorem ld22: LD 22:=lR isAgg22
theorem CR: LD 23:=lR isAgg23
theorem ld25: LR 25 3:=fun h c l=>jZ isAgg25 sizeOf25 l h c
theorem ld27: LR 27 5:=fun h c l=>jZ isAgg27 sizeOf27 l h c
theorem AT: LR 29 12:=fun h c l=>jZ isAgg29 sizeOf29 l h c
theorem Gr: LD 30:=lR isAgg30
theorem PU: LR 32 2:=fun h c l=>jZ isAgg32 sizeOf32 l h c
theorem Vl: LD 33:=lR isAgg33
theorem MZ: LD 34:=lR isAgg34
theorem Tv: LD 35:=lR isAgg35
theorem Qm: LD 36:=lR isAgg36
theorem Tl: LD 37:=lR isAgg37
theorem SS: LD 38:=lR isAgg38
theorem Ek: LD 39:=lR isAgg39
theorem BH: LR 41 23:=fun h c l=>jZ isAgg41 sizeOf41 l h c
theorem ld42: LD 42:=lR isAgg42
theorem uG: LD 54:=lR isAgg54
theorem dV: LR 57 1:=fun h c l=>jZ isAgg57 sizeOf57 l h c
theorem uF: LD 67:=lR isAgg67
theorem ZR: LD 68:=lR isAgg68
theorem ML: LR 70 7:=fun h c l=>jZ isAgg70 sizeOf70 l h c
theorem MS: LD 93:=lR isAgg93
theorem WN: LD 94:=lR isAgg94
theorem It: LD 95:=lR isAgg95
theorem IK: LR 97 12:=fun h c l=>jZ isAgg97 sizeOf97 l h c
theorem IJ: LR 99 19:=fun h c l=>jZ isAgg99 sizeOf99 l h c
theorem ld101: LR 101 2:=fun h c l=>jZ isAgg101 sizeOf101 l h c
theorem AB: LR 109 7:=fun h c l=>jZ isAgg109 sizeOf109 l h c
theorem bQ: LR 112 2:=fun h c l=>jZ isAgg112 sizeOf112 l h c
theorem VH: LR 119 2:=fun h c l=>jZ isAgg119 sizeOf119 l h c
theorem QN: LR 124 6:=fun h c l=>jZ isAgg124 sizeOf124 l h c
theorem Ku: LR 128 3:=fun h c l=>jZ isAgg128 sizeOf128 l h c
theorem VD: LR 132 2:=fun h c l=>jZ isAgg132 sizeOf132 l h c
theorem YR: LR 140 11:=fun h c l=>jZ isAgg140 sizeOf140 l h c
theorem OY: LR 143 5:=fun h c l=>jZ isAgg143 sizeOf143 l h c
theorem eI: LD 147:=lR isAgg147
theorem uU: LD 148:=lR isAgg148
theorem ld186: LD 186:=lR isAgg186
theorem Fz: LR 209 1:=fun h c l=>jZ isAgg209 sizeOf209 l h c
theorem BI: LD 212:=lR isAgg212
theorem VZ: LD 213:=lR isAgg213
theorem uI: LR 220 5:=fun h c l=>jZ isAgg220 sizeOf220 l h c
theorem Ro: LR 245 2:=fun h c l=>jZ isAgg245 sizeOf245 l h c
end
theorem en4: EN 4:=fun _ _=>by kernel_rfl
theorem en5: EN 5:=fun _ _=>by kernel_rfl
theorem en6: EN 6:=fun _ _=>by kernel_rfl
theorem en7: EN 7:=fun _ _=>by kernel_rfl
theorem en8: EN 8:=fun _ _=>by kernel_rfl
theorem en9: EN 9:=fun _ _=>by kernel_rfl
theorem en10: EN 10:=fun _ _=>by kernel_rfl
theorem Yh: EN 11:=fun _ _=>by kernel_rfl
theorem YS: EN 12:=fun _ _=>by kernel_rfl
theorem en13: EN 13:=fun _ _=>by kernel_rfl
theorem en14: EN 14:=fun _ _=>by kernel_rfl
theorem en15: EN 15:=fun _ _=>by kernel_rfl
theorem en16: EN 16:=fun _ _=>by kernel_rfl
theorem en17: EN 17:=fun _ _=>by kernel_rfl
theorem en18: EN 18:=fun _ _=>by kernel_rfl
theorem en19: EN 19:=fun _ _=>by kernel_rfl
theorem en20: EN 20:=fun _ _=>by kernel_rfl
theorem en21: EN 21:=fun _ _=>by kernel_rfl
theorem en23: EN 23:=fun _ _=>by kernel_rfl
theorem en24: EN 24:=fun _ _=>by kernel_rfl
theorem Wx: EN 25:=fun _ _=>by kernel_rfl
theorem GU: EN 26:=fun _ _=>by kernel_rfl
theorem en27: EN 27:=fun _ _=>by kernel_rfl
theorem en28: EN 28:=fun _ _=>by kernel_rfl
theorem en29: EN 29:=fun _ _=>by kernel_rfl
theorem en30: EN 30:=fun _ _=>by kernel_rfl
theorem en31: EN 31:=fun _ _=>by kernel_rfl
theorem en32: EN 32:=fun _ _=>by kernel_rfl
theorem en33: EN 33:=fun _ _=>by kernel_rfl
theorem en34: EN 34:=fun _ _=>by kernel_rfl
theorem en35: EN 35:=fun _ _=>by kernel_rfl
theorem en36: EN 36:=fun _ _=>by kernel_rfl
theorem en37: EN 37:=fun _ _=>by kernel_rfl
theorem en38: EN 38:=fun _ _=>by kernel_rfl
theorem en39: EN 39:=fun _ _=>by kernel_rfl
theorem ZD: EN 40:=fun _ _=>by kernel_rfl
theorem Lq: EN 41:=fun _ _=>by kernel_rfl
theorem en42: EN 42:=fun _ _=>by kernel_rfl
theorem Jl: EN 43:=fun _ _=>by kernel_rfl
theorem Ln: EN 44:=fun _ _=>by kernel_rfl
theorem kB: EN 45:=fun _ _=>by kernel_rfl
theorem en46: EN 46:=fun _ _=>by kernel_rfl
theorem en47: EN 47:=fun _ _=>by kernel_rfl
theorem en48: EN 48:=fun _ _=>by kernel_rfl
theorem If: EN 49:=fun _ _=>by kernel_rfl
theorem EU: EN 50:=fun _ _=>by kernel_rfl
theorem en51: EN 51:=fun _ _=>by kernel_rfl
theorem en52: EN 52:=fun _ _=>by kernel_rfl
theorem aAb: EN 53:=fun _ _=>by kernel_rfl
theorem en54: EN 54:=fun _ _=>by kernel_rfl
theorem ZU: EN 55:=fun _ _=>by kernel_rfl
theorem en56: EN 56:=fun _ _=>by kernel_rfl
theorem en57: EN 57:=fun _ _=>by kernel_rfl
theorem en58: EN 58:=fun _ _=>by kernel_rfl
theorem en59: EN 59:=fun _ _=>by kernel_rfl
theorem en60: EN 60:=fun _ _=>by kernel_rfl
theorem en61: EN 61:=fun _ _=>by kernel_rfl
theorem en62: EN 62:=fun _ _=>by kernel_rfl
theorem en63: EN 63:=fun _ _=>by kernel_rfl
theorem en64: EN 64:=fun _ _=>by kernel_rfl
theorem en65: EN 65:=fun _ _=>by kernel_rfl
theorem en66: EN 66:=fun _ _=>by kernel_rfl
theorem en67: EN 67:=fun _ _=>by kernel_rfl
theorem en71: EN 71:=fun _ _=>by kernel_rfl
theorem RH: EN 72:=fun _ _=>by kernel_rfl
theorem zU: EN 73:=fun _ _=>by kernel_rfl
theorem en74: EN 74:=fun _ _=>by kernel_rfl
theorem en75: EN 75:=fun _ _=>by kernel_rfl
theorem en76: EN 76:=fun _ _=>by kernel_rfl
theorem TT: EN 77:=fun _ _=>by kernel_rfl
theorem Ly: EN 78:=fun _ _=>by kernel_rfl
theorem en79: EN 79:=fun _ _=>by kernel_rfl
theorem en80: EN 80:=fun _ _=>by kernel_rfl
theorem en81: EN 81:=fun _ _=>by kernel_rfl
theorem en82: EN 82:=fun _ _=>by kernel_rfl
theorem ZZ: EN 83:=fun _ _=>by kernel_rfl
theorem Zy: EN 84:=fun _ _=>by kernel_rfl
theorem en85: EN 85:=fun _ _=>by kernel_rfl
theorem en86: EN 86:=fun _ _=>by kernel_rfl
theorem en87: EN 87:=fun _ _=>by kernel_rfl
theorem en88: EN 88:=fun _ _=>by kernel_rfl
theorem en89: EN 89:=fun _ _=>by kernel_rfl
theorem en90: EN 90:=fun _ _=>by kernel_rfl
theorem en91: EN 91:=fun _ _=>by kernel_rfl
theorem en92: EN 92:=fun _ _=>by kernel_rfl
theorem en93: EN 93:=fun _ _=>by kernel_rfl
theorem en94: EN 94:=fun _ _=>by kernel_rfl
theorem en95: EN 95:=fun _ _=>by kernel_rfl
theorem en96: EN 96:=fun _ _=>by kernel_rfl
theorem ZL: EN 97:=fun _ _=>by kernel_rfl
theorem en98: EN 98:=fun _ _=>by kernel_rfl
theorem Jq: EN 99:=fun _ _=>by kernel_rfl
theorem Qf: EN 100:=fun _ _=>by kernel_rfl
theorem en101: EN 101:=fun _ _=>by kernel_rfl
theorem aAf: EN 102:=fun _ _=>by kernel_rfl
theorem en103: EN 103:=fun _ _=>by kernel_rfl
theorem Za: EN 104:=fun _ _=>by kernel_rfl
theorem aAk: EN 105:=fun _ _=>by kernel_rfl
theorem Wc: EN 106:=fun _ _=>by kernel_rfl
theorem Zl: EN 107:=fun _ _=>by kernel_rfl
theorem ZY: EN 108:=fun _ _=>by kernel_rfl
theorem en109: EN 109:=fun _ _=>by kernel_rfl
theorem en110: EN 110:=fun _ _=>by kernel_rfl
theorem aAa: EN 111:=fun _ _=>by kernel_rfl
theorem en112: EN 112:=fun _ _=>by kernel_rfl
theorem PW: EN 113:=fun _ _=>by kernel_rfl
theorem QJ: EN 114:=fun _ _=>by kernel_rfl
theorem aAn: EN 115:=fun _ _=>by kernel_rfl
theorem en116: EN 116:=fun _ _=>by kernel_rfl
theorem KY: EN 117:=fun _ _=>by kernel_rfl
theorem YP: EN 118:=fun _ _=>by kernel_rfl
theorem en119: EN 119:=fun _ _=>by kernel_rfl
theorem en120: EN 120:=fun _ _=>by kernel_rfl
theorem ZQ: EN 121:=fun _ _=>by kernel_rfl
theorem en122: EN 122:=fun _ _=>by kernel_rfl
theorem Gw: EN 124:=fun _ _=>by kernel_rfl
theorem yQ: EN 125:=fun _ _=>by kernel_rfl
theorem VQ: EN 126:=fun _ _=>by kernel_rfl
theorem Wl: EN 127:=fun _ _=>by kernel_rfl
theorem en128: EN 128:=fun _ _=>by kernel_rfl
theorem Wn: EN 129:=fun _ _=>by kernel_rfl
theorem en130: EN 130:=fun _ _=>by kernel_rfl
theorem YL: EN 131:=fun _ _=>by kernel_rfl
theorem en132: EN 132:=fun _ _=>by kernel_rfl
theorem ZS: EN 133:=fun _ _=>by kernel_rfl
theorem VW: EN 134:=fun _ _=>by kernel_rfl
theorem ZI: EN 135:=fun _ _=>by kernel_rfl
theorem Cx: EN 136:=fun _ _=>by kernel_rfl
theorem PP: EN 137:=fun _ _=>by kernel_rfl
theorem Ze: EN 138:=fun _ _=>by kernel_rfl
theorem Od: EN 140:=fun _ _=>by kernel_rfl
theorem VO: EN 141:=fun _ _=>by kernel_rfl
theorem Wv: EN 142:=fun _ _=>by kernel_rfl
theorem Zm: EN 143:=fun _ _=>by kernel_rfl
theorem en144: EN 144:=fun _ _=>by kernel_rfl
theorem VU: EN 145:=fun _ _=>by kernel_rfl
theorem aAh: EN 146:=fun _ _=>by kernel_rfl
theorem en147: EN 147:=fun _ _=>by kernel_rfl
theorem VB: EN 148:=fun _ _=>by kernel_rfl
theorem VY: EN 149:=fun _ _=>by kernel_rfl
theorem FG: EN 150:=fun _ _=>by kernel_rfl
theorem en151: EN 151:=fun _ _=>by kernel_rfl
theorem Wo: EN 152:=fun _ _=>by kernel_rfl
theorem YM: EN 153:=fun _ _=>by kernel_rfl
theorem Zv: EN 154:=fun _ _=>by kernel_rfl
theorem Zx: EN 155:=fun _ _=>by kernel_rfl
theorem en156: EN 156:=fun _ _=>by kernel_rfl
theorem en157: EN 157:=fun _ _=>by kernel_rfl
theorem VP: EN 158:=fun _ _=>by kernel_rfl
theorem en159: EN 159:=fun _ _=>by kernel_rfl
theorem Vz: EN 160:=fun _ _=>by kernel_rfl
theorem ZV: EN 161:=fun _ _=>by kernel_rfl
theorem en162: EN 162:=fun _ _=>by kernel_rfl
theorem ZB: EN 163:=fun _ _=>by kernel_rfl
theorem en164: EN 164:=fun _ _=>by kernel_rfl
theorem aAj: EN 165:=fun _ _=>by kernel_rfl
theorem en166: EN 166:=fun _ _=>by kernel_rfl
theorem YY: EN 167:=fun _ _=>by kernel_rfl
theorem en168: EN 168:=fun _ _=>by kernel_rfl
theorem VG: EN 169:=fun _ _=>by kernel_rfl
theorem Zi: EN 170:=fun _ _=>by kernel_rfl
theorem en171: EN 171:=fun _ _=>by kernel_rfl
theorem Zc: EN 172:=fun _ _=>by kernel_rfl
theorem Zr: EN 173:=fun _ _=>by kernel_rfl
theorem en175: EN 175:=fun _ _=>by kernel_rfl
theorem PA: EN 176:=fun _ _=>by kernel_rfl
theorem en177: EN 177:=fun _ _=>by kernel_rfl
theorem Zj: EN 178:=fun _ _=>by kernel_rfl
theorem en179: EN 179:=fun _ _=>by kernel_rfl
theorem en180: EN 180:=fun _ _=>by kernel_rfl
theorem YZ: EN 181:=fun _ _=>by kernel_rfl
theorem VC: EN 182:=fun _ _=>by kernel_rfl
theorem Du: EN 187:=fun _ _=>by kernel_rfl
theorem en188: EN 188:=fun _ _=>by kernel_rfl
theorem en189: EN 189:=fun _ _=>by kernel_rfl
theorem en190: EN 190:=fun _ _=>by kernel_rfl
theorem PL: EN 191:=fun _ _=>by kernel_rfl
theorem Wa: EN 192:=fun _ _=>by kernel_rfl
theorem en195: EN 195:=fun _ _=>by kernel_rfl
theorem Ki: EN 196:=fun _ _=>by kernel_rfl
theorem en201: EN 201:=fun _ _=>by kernel_rfl
theorem YW: EN 202:=fun _ _=>by kernel_rfl
theorem en203: EN 203:=fun _ _=>by kernel_rfl
theorem en204: EN 204:=fun _ _=>by kernel_rfl
theorem Kx: EN 205:=fun _ _=>by kernel_rfl
theorem YT: EN 207:=fun _ _=>by kernel_rfl
theorem en208: EN 208:=fun _ _=>by kernel_rfl
theorem en209: EN 209:=fun _ _=>by kernel_rfl
theorem aAc: EN 210:=fun _ _=>by kernel_rfl
theorem en211: EN 211:=fun _ _=>by kernel_rfl
theorem Zb: EN 212:=fun _ _=>by kernel_rfl
theorem VN: EN 213:=fun _ _=>by kernel_rfl
theorem en214: EN 214:=fun _ _=>by kernel_rfl
theorem VR: EN 215:=fun _ _=>by kernel_rfl
theorem oP: EN 216:=fun _ _=>by kernel_rfl
theorem en217: EN 217:=fun _ _=>by kernel_rfl
theorem Zs: EN 218:=fun _ _=>by kernel_rfl
theorem ZE: EN 219:=fun _ _=>by kernel_rfl
theorem KW: EN 223:=fun _ _=>by kernel_rfl
theorem en236: EN 236:=fun _ _=>by kernel_rfl
theorem KB: EN 237:=fun _ _=>by kernel_rfl
theorem OO: EN 238:=fun _ _=>by kernel_rfl
theorem Zd: EN 239:=fun _ _=>by kernel_rfl
theorem en245: EN 245:=fun _ _=>by kernel_rfl
theorem Wg: EN 251:=fun _ _=>by kernel_rfl
theorem ZC: EN 252:=fun _ _=>by kernel_rfl
theorem ZM: EN 253:=fun _ _=>by kernel_rfl
theorem YV: EN 254:=fun _ _=>by kernel_rfl
theorem en255: EN 255:=fun _ _=>by kernel_rfl
theorem en256: EN 256:=fun _ _=>by kernel_rfl
theorem en257: EN 257:=fun _ _=>by kernel_rfl
theorem en258: EN 258:=fun _ _=>by kernel_rfl
theorem Vy: EN 278:=fun _ _=>by kernel_rfl
theorem en279: EN 279:=fun _ _=>by kernel_rfl
theorem aAi: EN 280:=fun _ _=>by kernel_rfl
theorem Re: EN 281:=fun _ _=>by kernel_rfl
theorem Pu: EN 282:=fun _ _=>by kernel_rfl
theorem Rs: EN 298:=fun _ _=>by kernel_rfl
def Rd (sz:Nat) (w:World) (v:Value) (n c:Nat) (xs:List Value):Prop:=
 xs.length=n*sz/\n<=c/\c<=maxLen/\((v=.slice none 0 0/\n=0/\c=0)\/∃ g o,v=.slice (some ⟨g,o,none⟩) n c/\g<w.heap.size/\w.rangeAt g o xs)
section
variable {sz:Nat} {w w':World} {v:Value} {n c:Nat} {xs:List Value}
theorem Rd.nil (sz) (w):Rd sz w (cP) 0 0 []:=⟨by simp,aDl _,by unfold maxLen;omega,.inl ⟨rfl,rfl,rfl⟩⟩
theorem Rd.below (h:Rd sz w v n c xs) (k:Below w.heap.size w w'):Rd sz w' v n c xs:=by
 obtain ⟨h1,h2,h3,h4 | ⟨g,o,e,hg,hr⟩⟩:=h
 ·exact ⟨h1,h2,h3,.inl h4⟩
 ·exact ⟨h1,h2,h3,.inr ⟨g,o,e,aBi hg k.size,fun j u hu=>(k.cell (p:=⟨g,o+j,none⟩) hg).trans (hr j u hu)⟩⟩
theorem Rd.only (h:Rd sz w v n c xs) (k:aS b w w') (hb:v.ownBlock≠some b):Rd sz w' v n c xs:=by
 obtain ⟨h1,h2,h3,h4 | ⟨g,o,e,hg,hr⟩⟩:=h
 ·exact ⟨h1,h2,h3,.inl h4⟩
 ·subst e
  have hne:g≠b:=fun e=>hb (by subst e;rfl)
  exact ⟨h1,h2,h3,.inr ⟨g,o,rfl,aBi hg k.size,fun j u hu=>k.cell (hr j u hu) hne⟩⟩
theorem Rd.drew (h:Rd sz w v n c xs):Rd sz w.drew v n c xs:=h.below ((aDt _ _).drew)
theorem Rd.alloc (h:Rd sz w v n c xs) (o):Rd sz (w.alloc o) v n c xs:=h.below ((aDt _ _).alloc (aDl _) o)
theorem Rd.lt (h:Rd sz w v n c xs):∀ k,v.ownBlock=some k->k<w.heap.size:=by
 intro k hk
 obtain ⟨_,_,_,⟨e,_,_⟩ | ⟨g,o,e,hg,_⟩⟩:=h
 ·subst e;cases hk
 ·subst e;cases hk;exact hg
theorem Rd.own (h:w.ownsRow base e sz v n xs):∃ c,Rd sz w v n c xs:=by
 obtain ⟨h1,⟨e1,e2⟩ | ⟨g,cap,cur,e1,hb,hg,h2,h3,h4,h5⟩⟩:=h
 ·subst e2;exact ⟨0,by simpa using h1,aDl _,by unfold maxLen;omega,.inl ⟨e1,rfl,rfl⟩⟩
 ·refine ⟨cap,h1,h2,h3,.inr ⟨g,0,e1,(Array.getElem?_eq_some_iff.1 hg).1,fun j u hu=>?_⟩⟩
  have hcur:cur.toList[j]? = some u:=by
   rw [<- h5] at hu
   rw [List.getElem?_take] at hu
   split at hu
   ·exact hu
   ·cases hu
  simp only [World.cell?,hg,aDa]
  simpa using hcur
theorem pN {P:Program} (h:Rd sz w v n c xs):(Builtin.firstCells sz n v).run P w=.ok xs.toArray w:=by
 obtain ⟨h1,_,_,⟨e,e1,_⟩ | ⟨g,o,e,_,hr⟩⟩:=h
 ·subst e e1
  have:xs=[]:=aAt (by simpa using h1)
  subst this
  exact run_firstCells_none w sz 0 0 0
 ·subst e
  exact run_firstCells_some w sz n _ n c xs h1 (fun j u hu=>by rw [aDf];exact hr j u hu)
theorem Rd.src {P:Program} (hk:P.underlying tx=some (.slice e')) (h:Rd sz w v n c xs) (h1:∀ u∈xs,u.oneCell'=true):Src P sz tx v n xs w:=by
 have hv:∃ b,v=.slice b n c:=by
  obtain ⟨_,_,_,⟨e,e1,e2⟩ | ⟨g,o,e,_⟩⟩:=h
  ·subst e1 e2;exact ⟨_,e⟩
  ·exact ⟨_,e⟩
 obtain ⟨b,rfl⟩:=hv
 exact ⟨.inl ⟨e',hk⟩,fun _=>rfl,pN h,pN h.drew,h.1,h1⟩
end
theorem Ap {P:Program} (t tx ty e) (i:TypeInfo) (ht:P.underlying t=some (.slice e)) (hi:P.info? e=some i) (b) (n) (x) (hs:Src P i.size tx x 0 [] w):
  (Builtin.append_ #[t,tx] ty #[.slice b n n,x]).run P w=.ok (.slice b n n) w:=by
 rcases hs.kind with ⟨e',hk⟩ | hk <;> cases b <;> simp [Builtin.append_,run_underlying ht,run_underlying hk,sizeOf,typeInfo,hi,hs.len,hs.cells,storeCells]
theorem ID (w:World) (x) (t) (c) (hc:c=1:=by rfl):Rd 1 (w.alloc (.cells #[x] t)) (.slice (some ⟨w.heap.size,0,none⟩) 1 c) 1 c [x]:=by
 subst hc
 refine ⟨rfl,aDl _,by unfold maxLen;omega,.inr ⟨_,_,rfl,by simp,fun j u hu=>?_⟩⟩
 match j with
 | 0=>
  cases hu
  exact kE _ _ _ _ rfl
 | j+1=>simp at hu
theorem tZ {P:Program} {Q:Exit->Act->World->Prop} (hgd:o.guard=none) (s x) (t tx)
  (ho:o.op=.call { callee:=.builtin .append,args:=#[s,x],argTypes:=#[t,tx] })
  (e) (i:TypeInfo) (z) (ht:P.underlying t=some (.slice e)) (hi:P.info? e=some i) (hz:i.zero=some z) (hzs:z.cells.size=i.size)
  (v) (n) (olds) (hs:a.eval s=v) (hold:Rd i.size w v n n olds) (y) (m) (news) (hx:a.eval x=y) (hsrc:Src P i.size tx y m news w)
  (h63:n+m<=maxLen) (hbytes:(n+m)*i.bytes<=140737488355328)
  (h:∀ v' c w',Rd i.size w' v' (n+m) c (olds++news)->Below w.heap.size w w'->((0<m/\w'.ownsRow w.heap.size e i.size v' (n+m) (olds++news))\/(m=0/\v'=v/\w'=w/\c=n))->wpList P ops Q rest (a.put o.dst v') w'):wpList P ops Q (o::rest) a w:=by
 refine wpList_plain hgd fun K hK=>?_
 have hv:∃ b,v=.slice b n n:=by
  obtain ⟨_,_,_,⟨e,e1,e2⟩ | ⟨g,o,e,_⟩⟩:=hold
  ·subst e1;exact ⟨_,e⟩
  ·exact ⟨_,e⟩
 obtain ⟨b,rfl⟩:=hv
 rcases aBk m with rfl | hm
 ·have hnews:news=[]:=aAt (by simpa using hsrc.newsLen)
  subst hnews
  have hr:=Ap (P:=P) (w:=w) t tx o.type e i ht hi b n y hsrc
  unfold Oper.wp execOp
  simp only [ho,resolve,invoke,builtin,aDe,aDh,aBw,aCe,aC3,aDb,hs,hx,hr]
  refine hK _ _ (h _ n _ ?_ (aDt _ _) (.inr ⟨rfl,rfl,rfl,rfl⟩))
  simpa using hold
 ·have hr:=run_append_grow_src (P:=P) w t tx o.type e i z ht hi hz b n n olds (pN hold.drew) y m news hsrc (by omega) (by unfold maxLen at h63;omega)
   (aC7 (aA6 _ (nextslicecap_le (by omega))) (by rw [Nat.mul_assoc];omega))
  have hge:=grownCap_ge w (n+m) n e
  have hle:=grownCap_le_maxLen w (n+m) n e h63
  have hown:(w.drew.alloc (.cells ((olds++news).toArray++Builtin.zeroCells z.cells (grownCap w (n+m) n e - (n+m))) e)).ownsRow w.heap.size e i.size (.slice (some ⟨w.heap.size,0,none⟩) (n+m) (grownCap w (n+m) n e)) (n+m) (olds++news):=by
   have hlen:(olds++news).length=(n+m)*i.size:=by rw [aBh,hold.1,hsrc.newsLen,aDn]
   refine ⟨hlen,.inr ⟨w.heap.size,_,_,rfl,aDl _,oG w.drew _,hge,hle,?_,?_⟩⟩
   ·have hsz:((olds++news).toArray++Builtin.zeroCells z.cells (grownCap w (n+m) n e - (n+m))).size=(olds++news).length+(grownCap w (n+m) n e - (n+m))*i.size:=by
     simp [size_zeroCells,hzs]
    rw [hsz,hlen,<- aDn]
    congr 1;omega
   ·rw [Array.toList_append,<- hlen];exact List.take_left
  obtain ⟨c,hrd⟩:=Rd.own hown
  unfold Oper.wp execOp
  simp only [ho,resolve,invoke,builtin,aDe,aDh,aBw,aCe,aC3,aDb,hs,hx,hr]
  exact hK _ _ (h _ c _ hrd ((aDt _ _).drew.alloc (aDl _) _) (.inl ⟨hm,hown⟩))
abbrev aEe:=@Rd.nil
theorem Wz {G:Bool} {P:Value->World->Prop} (e:G=false):GV G P undef w:=⟨fun h=>(by rw [e] at h;cases h),fun _=>rfl⟩
theorem mY {G:Bool} {P:Value->World->Prop} (e:G=true) (h:P v w):GV G P v w:=⟨fun _=>h,fun h'=>(by rw [e] at h';cases h')⟩
theorem zT: Yy (fun v w=>Rd sz w v n c xs):=fun _ _ _ h k=>h.below k
theorem DW {α:Type} (f:α->List Value) (k:Nat) (hk:∀ x,(f x).length=k):∀ (l:List α) (i j:Nat) (x:α),l[i]? = some x->j<k->(l.flatMap f)[i*k+j]? = (f x)[j]?
 | [],i,j,x,h,_=>by simp at h
 | y::r,0,j,x,h,hj=>by
  simp at h;subst h
  rw [aBu,Nat.zero_mul,aDa,List.getElem?_append_left (by rw [hk];exact hj)]
 | y::r,i+1,j,x,h,hj=>by
  have h2:r[i]? = some x:=by simpa using h
  rw [aBu,List.getElem?_append_right (by rw [hk,aDn];omega),hk,<- DW f k hk r i j x h2 hj]
  congr 1
  rw [aDn];omega
theorem cQ {α:Type} (f:α->List Value) (sz:Nat) (hf:∀ x,(f x).length=sz) {l:List α} {g o k:Nat} (hr:w0.rangeAt g o (l.flatMap f)) (hg:g<w0.heap.size) (hb:Below w0.heap.size w0 w) (hk:k<l.length):w.rangeAt g (o+k*sz) (f l[k]):=by
 intro j u hu
 have hj:j<sz:=by have:=(List.getElem?_eq_some_iff.1 hu).1;rwa [hf] at this
 have:=hr (k*sz+j) u ((DW f sz hf l k j _ (List.getElem?_eq_getElem hk) hj).trans hu)
 rw [Nat.add_assoc]
 exact (hb.cell (p:=⟨g,o+(k*sz+j),none⟩) hg).trans this
theorem Rd.form' (h:Rd sz w (.slice b n c) n c xs) (hn:0<n):∃ g o,b=.some ⟨g,o,none⟩/\g<w.heap.size/\w.rangeAt g o xs:=by
 obtain ⟨_,_,_,⟨e,e1,_⟩ | ⟨g,o,e,hg,hr⟩⟩:=h
 ·omega
 ·cases e;exact ⟨g,o,rfl,hg,hr⟩
theorem pY (h:a=b) (k:c=d):Value.tuple #[a,c]=.tuple #[b,d]:=by rw [h,k]
section
variable {r:Option Nat} {n:Nat} {ds:List Deferred} {g:Nat->Value} {w:World} {Q:Exit->Act->World->Prop} {l:List Oper} {ops:Array Oper} {op:Op} {ty:TypeId} {pos:String} {aft:Array Edge} {gd:Option (Nat × Bool)} {d:Tmp} {dd:Option Tmp} {x y z:Operand} {o:Oper} {Pn:List PanicEntry->World->Prop} {v v' a b c:Value} {t t':TypeId} {k:IntKind}
theorem dG {G:Bool} {R:Value->World->Prop} (e:G=true) (h:tV n g o w Pn fun v w'=>Below w.heap.size w w'/\R v w'):tV n g o w Pn fun v w'=>Below w.heap.size w w'/\GV G R v w':=by
 rcases h with ⟨v,w',h1,h2,h3⟩ | ⟨f,args,h1,h2⟩ | ⟨w',h1,h2,h3⟩
 ·exact .inl ⟨v,w',h1,h2,mY e h3⟩
 ·refine .inr (.inl ⟨f,args,h1,h2.mono ?_⟩)
  rintro e' w' (⟨v,rfl,h2,h3⟩ | h)
  ·exact .inl ⟨v,rfl,h2,mY e h3⟩
  ·exact .inr h
 ·exact .inr (.inr ⟨w',h1,h2,mY e h3⟩)
theorem ac {xs:List Operand} (h:ass=xs.map (ev n g)):ass++caps=xs.map (ev n g)++caps:=by rw [h]
theorem iJ (v') (hr:aL n g ⟨some d,op,ty,pos,aft,none⟩ w v) (he:v=v') (h:dY r ops Q l (fr n ds (up g d v')) w):dY r ops Q (⟨some d,op,ty,pos,aft,none⟩::l) (fr n ds g) w:=by
 subst he;exact sq hr h
theorem aN (v') (he:ev n g x=v') (h:dY r ops Q l (fr n ds (up g d v')) w):dY r ops Q (⟨some d,.move x,ty,pos,aft,none⟩::l) (fr n ds g) w:=iJ v' aT he h
theorem aW (v') (he:ev n g x=v') (h:dY r ops Q l (fr n ds (up g d v')) w):dY r ops Q (⟨some d,.assign x,ty,pos,aft,none⟩::l) (fr n ds g) w:=iJ v' kC he h
theorem bI (he:ev n g x=v') (h:dY r ops Q l (fr n ds (up g d v')) w):dY r ops Q (⟨some d,.move x,ty,pos,aft,none⟩::l) (fr n ds g) w:=iJ v' aT he h
theorem rU (h:dY r ops Q l (fr n ds (up g d v')) w):dY r ops Q (⟨some d,.move (.const v'),ty,pos,aft,none⟩::l) (fr n ds g) w:=iJ v' aT rfl h
theorem bU (h:dY r ops Q l (fr n ds (up g d v')) w):dY r ops Q (⟨some d,.assign (.const v'),ty,pos,aft,none⟩::l) (fr n ds g) w:=iJ v' kC rfl h
theorem BQ {L:List Oper} {k j:Nat} {b:Bool} (v':Value) (hk:(L[k]?).bind (·.dst)=some j) (hj:ev n g (.tmp j)=.bool b) (hr:aL n g ⟨some d,op,ty,pos,aft,some (k,b)⟩ w v) (he:v=v') (h:dY r L.toArray Q l (fr n ds (up g d v')) w):dY r L.toArray Q (⟨some d,op,ty,pos,aft,some (k,b)⟩::l) (fr n ds g) w:=by
 subst he;exact sg hk hj hr h
theorem pI {id:Nat} {a:Act} (h:Q .normal a w):Exit.inBlock id Q .normal a w:=h
theorem Aa (h:ev n g x=a):aL n g ⟨dd,.makeFunc (.func f) #[] #[x],ty,pos,aft,gd⟩ w (.func (.func f) #[] #[a]):=by subst h;exact r_mf (xs:=[x])
theorem mf2 (h:ev n g x=a) (h2:ev n g y=b):aL n g ⟨dd,.makeFunc (.func f) #[] #[x,y],ty,pos,aft,gd⟩ w (.func (.func f) #[] #[a,b]):=by subst h h2;exact r_mf (xs:=[x,y])
theorem r_beq {a b:Bool} (hu:prog.underlying t=some .bool) (hx:ev n g x=.bool a) (hy:ev n g y=.bool b):aL n g ⟨dd,.binOp .eql t x y t',ty,pos,aft,gd⟩ w (.bool (a == b)):=by
 unfold aL execOp; simp only [hx, hy, go_sem]
 have h0:∀ d,(Op.equalIn (d+1) t (.bool a) (.bool b)).run prog w=.ok (a == b) w:=fun d=>by
  unfold Op.equalIn
  simp [run_underlying hu]
 have h1:(Op.equal t (.bool a) (.bool b)).run prog w=.ok (a == b) w:=h0 9999
 have h:(binOp .eql t (.bool a) (.bool b)).run prog w=.ok (.bool (a == b)) w:=by
  unfold binOp
  simp [h1]
 simp [go_sem, h]
theorem Qt {a b:Int} (hx:ev n g x=zi a) (hy:ev n g y=zi b) (h0:0<=a/\a<=9223372036854775807) (h1:0<b):aL n g ⟨dd,.binOp .quo t x y t',ty,pos,aft,gd⟩ w (zi (a.tdiv b)):=by
 unfold aL execOp
 have hb:b≠0:=by omega
 have hd:0<=a.tdiv b/\a.tdiv b<=a:=⟨Int.tdiv_nonneg h0.1 (by omega),by rw [aAu h0.1];exact Int.ediv_le_self _ h0.1⟩
 simp only [hx, hy, go_sem]
 simp [go_sem, hb]
 try exact IntWalk.i64_in _ (by omega)
theorem Gz {i:Nat} (hx:ev n g x=zi (i:Int)) (hy:ev n g y=zi 1) (h:0<i/\i<9223372036854775807):aL n g ⟨dd,.binOp .sub t x y t',ty,pos,aft,gd⟩ w (zi ((i - 1:Nat):Int)):=by
 have:=tB (dd:=dd) (ty:=ty) (pos:=pos) (aft:=aft) (gd:=gd) (w:=w) (t:=t) (t':=t') hx hy ⟨by omega,by omega⟩
 rwa [show (i:Int) - 1=((i - 1:Nat):Int) by omega] at this
theorem Rm {e sz:Nat} {bs:Option Addr} {m c k:Nat} (hu:prog.underlying t=some (.slice e)) (hs:∀ w,(sizeOf e).run prog w=.ok sz w) (hx:ev n g x=.slice bs m c) (hy:ev n g y=zi (k:Int)) (hk:k<=c):
  aL n g ⟨dd,.slice t x none (some y) none,ty,pos,aft,gd⟩ w (.slice bs k c):=by
 unfold aL execOp
 have h0:(0:Int)<=(k:Int)/\(k:Int)<=(c:Int):=by omega
 simp [hx,hy,Instr.sliceAt,Instr.slice,run_underlying hu,Instr.sliceBounds,Instr.sliceBound,asIntOf,h0,hs,hk]
 intro hc
 cases bs with
 | none=>rfl
 | some a=>simp [aCy]
theorem WC {e sz:Nat} {bs:Option Addr} {m c k k2:Nat} (hu:prog.underlying t=some (.slice e)) (hs:∀ w,(sizeOf e).run prog w=.ok sz w) (hx:ev n g x=.slice bs m c) (hy:ev n g y=zi (k:Int)) (hz:ev n g z=zi (k2:Int)) (hk:k<=k2/\k2<=c):
  aL n g ⟨dd,.slice t x none (some y) (some z),ty,pos,aft,gd⟩ w (.slice bs k k2):=by
 unfold aL execOp
 simp [hx,hy,hz,Instr.sliceAt,Instr.slice,run_underlying hu,Instr.sliceBounds,Instr.sliceBound,asIntOf,hs,hk.1,hk.2]
 intro hc
 cases bs with
 | none=>rfl
 | some a=>simp [aCy]
theorem LG {e:TypeId} {m:Nat} {ps:List (Nat × Operand)} {ie:TypeInfo} {z:Value} {cells:List Value} (hu:prog.underlying t=some (.slice e)) (hie:prog.info? e=some ie) (hz:ie.zero=some z) (hs:Nat.ble (m*ie.size) 16777216=true) (hp:Nat.beq (m*ie.size) 0=false)
  (hf:Instr.fill (fun i=>some (i*ie.size,ie.size)) (((List.range (m*ie.size)).map (z.cells[· % z.cells.size]!)).toArray) (ps.map fun p=>(p.1,ev n g p.2))=some cells.toArray) {sz:Nat} (hc:cells.length=m*sz) (hm:Nat.ble m maxLen=true):
  tV n g ⟨dd,.buildSlice t m ps.toArray,ty,pos,aft,gd⟩ w Pn fun v w'=>Below w.heap.size w w'/\Rd sz w' v m m cells:=by
 have hr:(execOp (ev n g) ⟨dd,.buildSlice t m ps.toArray,ty,pos,aft,gd⟩).run prog w=.ok (.value (.slice (some ⟨w.heap.size,0,none⟩) m m)) (w.alloc (.cells cells.toArray e)):=by
  have hs':¬ m*ie.size>2 ^ 24:=by have:=aA1 hs;omega
  have hp':¬ m*ie.size=0:=by intro e;rw [e] at hp;cases hp
  have hb:=run_buildSlice (P:=prog) w t e m (ps.map fun p=>(p.1,ev n g p.2)).toArray cells.toArray ie z hu hie hz hs' hp' (by
   have:((List.range (m*ie.size)).map (z.cells[· % z.cells.size]!)).toArray=(Array.range (m*ie.size)).map (z.cells[· % z.cells.size]!):=by
    rw [<- List.toArray_range,aCe]
   rw [<- this];simpa using hf)
  unfold execOp
  simp [hb]
 have hB:=Bk.new cells e w
 refine .inl ⟨_,_,hr,iF w _,hc,aDl _,aA1 hm,.inr ⟨_,_,rfl,hB.lt,hB.range⟩⟩
theorem uX {e:TypeId} {m:Nat} {ps:List (Nat × Operand)} {ie:TypeInfo} {z:Value} {cells:List Value} (hu:prog.underlying t=some (.slice e)) (hie:prog.info? e=some ie) (hz:ie.zero=some z) (hs:Nat.ble (m*ie.size) 16777216=true) (hp:Nat.beq (m*ie.size) 0=false)
  (hf:Instr.fill (fun i=>some (i*ie.size,ie.size)) (((List.range (m*ie.size)).map (z.cells[· % z.cells.size]!)).toArray) (ps.map fun p=>(p.1,ev n g p.2))=some cells.toArray) {sz:Nat} (hc:cells.length=m*sz) (hm:Nat.ble m maxLen=true)
  (h:∀ v w',Below w.heap.size w w'->Rd sz w' v m m cells->dY r ops Q l (fr n ds (up g d v)) w'):dY r ops Q (⟨some d,.buildSlice t m ps.toArray,ty,pos,aft,none⟩::l) (fr n ds g) w:=
 Lr (sz:=sz) hu hie hz hs hp hf fun w' hB hb _=>h _ _ hb ⟨hc,aDl _,aA1 hm,.inr ⟨_,_,rfl,hB.lt,hB.range⟩⟩
theorem GI: (prog.info? 2).map (fun i=>(i.zero,i.size,i.bytes))=some (some (zi 0),1,8):=by kernel_rfl
theorem yI {a1:Int} (h0:ev n g x=zi a1):tV n g ⟨dd,.buildSlice 39 1 #[(0,x)],ty,pos,aft,gd⟩ w Pn fun v w'=>Below w.heap.size w w'/\Rd 1 w' v 1 1 [zi a1]:=by
 obtain ⟨i0,hi,hz0,hz1,hz2⟩:=info_parts GI
 refine LG (ps:=[(0,x)]) (ie:=i0) (cells:=[zi a1]) underlying39 hi hz0 (by rw [hz1];rfl) (by rw [hz1];rfl) (by rw [hz1];simp only [aC3,aDb,h0];rfl) rfl rfl
theorem mM {a1:Int} (h0:ev n g x=zi a1) (h:∀ v w',Below w.heap.size w w'->Rd 1 w' v 1 1 [zi a1]->dY r ops Q l (fr n ds (up g d v)) w'):dY r ops Q (⟨some d,.buildSlice 39 1 #[(0,x)],ty,pos,aft,none⟩::l) (fr n ds g) w:=by
 obtain ⟨i0,hi,hz0,hz1,hz2⟩:=info_parts GI
 refine uX (ps:=[(0,x)]) (ie:=i0) (cells:=[zi a1]) underlying39 hi hz0 (by rw [hz1];rfl) (by rw [hz1];rfl) (by rw [hz1];simp only [aC3,aDb,h0];rfl) rfl rfl h
theorem Cr {a1 b1:Int} (h0:ev n g x=zi a1) (h1:ev n g y=zi b1) (h:∀ v w',Below w.heap.size w w'->Rd 1 w' v 2 2 [zi a1,zi b1]->dY r ops Q l (fr n ds (up g d v)) w'):dY r ops Q (⟨some d,.buildSlice 39 2 #[(0,x),(1,y)],ty,pos,aft,none⟩::l) (fr n ds g) w:=by
 obtain ⟨i0,hi,hz0,hz1,hz2⟩:=info_parts GI
 refine uX (ps:=[(0,x),(1,y)]) (ie:=i0) (cells:=[zi a1,zi b1]) underlying39 hi hz0 (by rw [hz1];rfl) (by rw [hz1];rfl) (by rw [hz1];simp only [aC3,aDb,h0,h1];rfl) rfl rfl h
theorem xQ {a1 b1 c1:Int} (h0:ev n g x=zi a1) (h1:ev n g y=zi b1) (h2:ev n g z=zi c1):tV n g ⟨dd,.buildSlice 39 3 #[(0,x),(1,y),(2,z)],ty,pos,aft,gd⟩ w Pn fun v w'=>Below w.heap.size w w'/\Rd 1 w' v 3 3 [zi a1,zi b1,zi c1]:=by
 obtain ⟨i0,hi,hz0,hz1,hz2⟩:=info_parts GI
 refine LG (ps:=[(0,x),(1,y),(2,z)]) (ie:=i0) (cells:=[zi a1,zi b1,zi c1]) underlying39 hi hz0 (by rw [hz1];rfl) (by rw [hz1];rfl) (by rw [hz1];simp only [aC3,aDb,h0,h1,h2];rfl) rfl rfl
theorem Gf {a1 b1 c1:Int} (h0:ev n g x=zi a1) (h1:ev n g y=zi b1) (h2:ev n g z=zi c1) (h:∀ v w',Below w.heap.size w w'->Rd 1 w' v 3 3 [zi a1,zi b1,zi c1]->dY r ops Q l (fr n ds (up g d v)) w'):dY r ops Q (⟨some d,.buildSlice 39 3 #[(0,x),(1,y),(2,z)],ty,pos,aft,none⟩::l) (fr n ds g) w:=by
 obtain ⟨i0,hi,hz0,hz1,hz2⟩:=info_parts GI
 refine uX (ps:=[(0,x),(1,y),(2,z)]) (ie:=i0) (cells:=[zi a1,zi b1,zi c1]) underlying39 hi hz0 (by rw [hz1];rfl) (by rw [hz1];rfl) (by rw [hz1];simp only [aC3,aDb,h0,h1,h2];rfl) rfl rfl h
theorem DD: ∀ (vs cs:List Value) (k:Nat),k+vs.length=cs.length->qZ cs k vs=cs.take k++vs
 | [],cs,k,h=>by
  simp at h
  show cs=_
  rw [h,aCb,aCl]
 | v::r,cs,k,h=>by
  simp only [aB3] at h
  have hk:k<cs.length:=by omega
  show qZ (cs.set k v) (k+1) r=_
  rw [DD r (cs.set k v) (k+1) (by rw [aCq];omega),aAr (by rw [aCq];exact hk)]
  simp [List.take_set_of_le]
theorem Cz (h:vs.length=cs.length):qZ cs 0 vs=vs:=by rw [DD vs cs 0 (by omega)];rfl
theorem bR {b:Nat} {cs vs:List Value} {td:TypeId} (hB:Bk b cs td w) (hs:∀ w,(sizeOf t).run prog w=.ok vs.length w) (hx:ev n g x=pt b 0) (hy:ev n g y=.agg vs.toArray) (h1:vs.all (·.oneCell')=true) (hj:vs.length=cs.length)
  (h:∀ w',Bk b vs td w'->aS b w w'->w'.heap.size=w.heap.size->dY r ops Q l (fr n ds g) w'):dY r ops Q (⟨none,.store t x y,ty,pos,aft,none⟩::l) (fr n ds g) w:=
 KO hB hs hx hy h1 (by rw [aDa,hj,Nat.ble_eq];exact aDl _) fun w' hB'=>h w' (by rw [Cz hj] at hB';exact hB')
end
section
variable {n i:Nat} {d:Option Tmp} {op:Op} {ty:TypeId} {pos:String} {aft:Array Edge} {l:List Oper} {T:World->World->Prop} {V:List (Value->World->Prop)} {ch:List Nat} {St:Nat->World->Prop} {Pn:List PanicEntry->World->Prop} {g0:Nat->Value} {w0:World} {k:Nat} {G X:Bool} {P:Value->World->Prop}
theorem i2: ∀ v w,P v w->P v w:=fun _ _ h=>h
theorem gU: ∀ w:World,G=false->GV G P undef w:=fun _ e=>Wz e
def Da (l:List Oper) (ch:List Nat) (i:Nat) (o:Oper) (js:List (Nat × Nat)) (ss:List Nat):Bool:=!ch.contains i&&Wk l o js&&ss.all (AP l i)
theorem oW (js:List (Nat × Nat)) (ss:List Nat) (S:cW l T V ch St) (hc:Da l ch i ⟨d,op,ty,pos,aft,none⟩ js ss=true) (h:∀ g w,T w0 w->Ah V g w js->lI g0 g ss->tV n g ⟨d,op,ty,pos,aft,none⟩ w Pn fun v w'=>Below w.heap.size w w'/\kH V i v w'):gE n l T V ch St Pn g0 w0 i ⟨d,op,ty,pos,aft,none⟩:=by
 unfold Da at hc
 simp only [aB0,aBt] at hc
 exact ow js ss S hc.1.1 hc.1.2 hc.2 h
def lF (l:List Oper) (k:Nat):Nat:=((l[k]?).bind (·.dst)).getD 0
theorem Yp {b:Bool} (js:List (Nat × Nat)) (ss:List Nat) (S:cW l T V ch St) (hG:∀ v w,kH V k v w->GB v b G) (hu:∀ w,G=false->kH V i undef w) (h:G=true->∀ g w,T w0 w->Ah V g w js->lI g0 g ss->tV n g ⟨d,op,ty,pos,aft,some (k,b)⟩ w Pn fun v w'=>Below w.heap.size w w'/\kH V i v w')
  (hc:(Da l ch i ⟨d,op,ty,pos,aft,some (k,b)⟩ ((k,lF l k)::js) ss&&Nat.blt (lF l k) n)=true):gE n l T V ch St Pn g0 w0 i ⟨d,op,ty,pos,aft,some (k,b)⟩:=by
 unfold Da at hc
 simp only [aB0,aBt] at hc
 exact og (kd:=lF l k) G js ss S hc.1.1.1 hc.1.1.2 hc.1.2 hc.2 hG hu h
theorem oT (js:List (Nat × Nat)) (ss:List Nat) (S:cW l T V ch St) (hc:(Da l ch i ⟨d,op,ty,pos,aft,some (k,true)⟩ ((k,lF l k)::js) ss&&Nat.blt (lF l k) n)=true) (hG:∀ v w,kH V k v w->v=.bool X) (hu:∀ w,X=false->kH V i undef w) (h:X=true->∀ g w,T w0 w->Ah V g w js->lI g0 g ss->tV n g ⟨d,op,ty,pos,aft,some (k,true)⟩ w Pn fun v w'=>Below w.heap.size w w'/\kH V i v w'):gE n l T V ch St Pn g0 w0 i ⟨d,op,ty,pos,aft,some (k,true)⟩:=Yp js ss S (fun v w h=>YO (hG v w h)) hu h hc
theorem oF (js:List (Nat × Nat)) (ss:List Nat) (S:cW l T V ch St) (hc:(Da l ch i ⟨d,op,ty,pos,aft,some (k,false)⟩ ((k,lF l k)::js) ss&&Nat.blt (lF l k) n)=true) (hG:∀ v w,kH V k v w->v=.bool X) (hu:∀ w,(!X)=false->kH V i undef w) (h:(!X)=true->∀ g w,T w0 w->Ah V g w js->lI g0 g ss->tV n g ⟨d,op,ty,pos,aft,some (k,false)⟩ w Pn fun v w'=>Below w.heap.size w w'/\kH V i v w'):gE n l T V ch St Pn g0 w0 i ⟨d,op,ty,pos,aft,some (k,false)⟩:=Yp js ss S (fun v w h=>YC (hG v w h)) hu h hc
theorem AZ (js:List (Nat × Nat)) (ss:List Nat) (S:cW l T V ch St) (hc:(Da l ch i ⟨d,op,ty,pos,aft,some (k,true)⟩ ((k,lF l k)::js) ss&&Nat.blt (lF l k) n)=true) (hG:∀ v w,kH V k v w->GV G (vE (.bool X)) v w) (hu:∀ w,(G&&X)=false->kH V i undef w) (h:(G&&X)=true->∀ g w,T w0 w->Ah V g w js->lI g0 g ss->tV n g ⟨d,op,ty,pos,aft,some (k,true)⟩ w Pn fun v w'=>Below w.heap.size w w'/\kH V i v w'):gE n l T V ch St Pn g0 w0 i ⟨d,op,ty,pos,aft,some (k,true)⟩:=Yp js ss S (fun v w h=>ZW (hG v w h)) hu h hc
theorem VF (js:List (Nat × Nat)) (ss:List Nat) (S:cW l T V ch St) (hc:(Da l ch i ⟨d,op,ty,pos,aft,some (k,false)⟩ ((k,lF l k)::js) ss&&Nat.blt (lF l k) n)=true) (hG:∀ v w,kH V k v w->GV G (vE (.bool X)) v w) (hu:∀ w,(G&&!X)=false->kH V i undef w) (h:(G&&!X)=true->∀ g w,T w0 w->Ah V g w js->lI g0 g ss->tV n g ⟨d,op,ty,pos,aft,some (k,false)⟩ w Pn fun v w'=>Below w.heap.size w w'/\kH V i v w'):gE n l T V ch St Pn g0 w0 i ⟨d,op,ty,pos,aft,some (k,false)⟩:=Yp js ss S (fun v w h=>gbGF (hG v w h)) hu h hc
variable {v:Value}
def Hq (l:List Oper) (V:List (Value->World->Prop)) (g:Nat->Value) (w:World):List Nat->Prop
 | []=>True
 | j::r=>kH V j (g (lF l j)) w/\Hq l V g w r
def jk (l:List Oper) (js:List Nat):List (Nat × Nat):=js.map fun j=>(j,lF l j)
theorem TR {g:Nat->Value}:∀ {js:List Nat},Ah V g w (jk l js)->Hq l V g w js
 | [],_=>trivial
 | _::_,h=>⟨h.1,TR h.2⟩
theorem aP (js:List Nat) (S:cW l T V ch St) (hc:(Da l ch i ⟨d,op,ty,pos,aft,none⟩ (jk l js) [],kH V i)=(true,vE v)) (h:∀ {g w},Hq l V g w js->aL n g ⟨d,op,ty,pos,aft,none⟩ w v):gE n l T V ch St Pn g0 w0 i ⟨d,op,ty,pos,aft,none⟩:=oW (jk l js) [] S (aDo hc).1 fun _ _ _ a _=>dv (h (TR a)) (by rw [(aDo hc).2])
theorem fY (js:List Nat) (S:cW l T V ch St) (hc:(Da l ch i ⟨d,op,ty,pos,aft,none⟩ (jk l js) [],kH V i)=(true,vE v)) (h:∀ {g w},T w0 w->Hq l V g w js->aL n g ⟨d,op,ty,pos,aft,none⟩ w v):gE n l T V ch St Pn g0 w0 i ⟨d,op,ty,pos,aft,none⟩:=oW (jk l js) [] S (aDo hc).1 fun _ _ t a _=>dv (h t (TR a)) (by rw [(aDo hc).2])
theorem oG1 {b:Bool} (js:List Nat) (S:cW l T V ch St) (hc:(Da l ch i ⟨d,op,ty,pos,aft,some (k,b)⟩ ((k,lF l k)::jk l js) []&&Nat.blt (lF l k) n)=true) (hG:∀ v w,kH V k v w->GB v b G) (hi:kH V i=GV G (vE v)) (h:∀ {g w},G=true->T w0 w->Hq l V g w js->aL n g ⟨d,op,ty,pos,aft,some (k,b)⟩ w v):gE n l T V ch St Pn g0 w0 i ⟨d,op,ty,pos,aft,some (k,b)⟩:=
 Yp (jk l js) [] S hG (fun w e=>by rw [hi];exact Wz e) (fun e _ _ t a _=>dv (h e t (TR a)) (by rw [hi];exact mY e rfl)) hc
theorem dM (js:List Nat) (S:cW l T V ch St) (hc:(Da l ch i ⟨d,op,ty,pos,aft,some (k,true)⟩ ((k,lF l k)::jk l js) []&&Nat.blt (lF l k) n,kH V k,kH V i)=(true,vE (.bool X),GV X (vE v))) (h:∀ {g w},X=true->T w0 w->Hq l V g w js->aL n g ⟨d,op,ty,pos,aft,some (k,true)⟩ w v):gE n l T V ch St Pn g0 w0 i ⟨d,op,ty,pos,aft,some (k,true)⟩:=
 oG1 js S (aDo hc).1 (fun v w h=>YO (by rw [(aDo (aDo hc).2).1] at h;exact h)) (aDo (aDo hc).2).2 h
theorem cK (js:List Nat) (S:cW l T V ch St) (hc:(Da l ch i ⟨d,op,ty,pos,aft,some (k,false)⟩ ((k,lF l k)::jk l js) []&&Nat.blt (lF l k) n,kH V k,kH V i)=(true,vE (.bool X),GV (!X) (vE v))) (h:∀ {g w},(!X)=true->T w0 w->Hq l V g w js->aL n g ⟨d,op,ty,pos,aft,some (k,false)⟩ w v):gE n l T V ch St Pn g0 w0 i ⟨d,op,ty,pos,aft,some (k,false)⟩:=
 oG1 js S (aDo hc).1 (fun v w h=>YC (by rw [(aDo (aDo hc).2).1] at h;exact h)) (aDo (aDo hc).2).2 h
theorem rX (js:List Nat) (S:cW l T V ch St) (hc:(Da l ch i ⟨d,op,ty,pos,aft,some (k,true)⟩ ((k,lF l k)::jk l js) []&&Nat.blt (lF l k) n,kH V k,kH V i)=(true,GV G (vE (.bool X)),GV (G&&X) (vE v))) (h:∀ {g w},(G&&X)=true->T w0 w->Hq l V g w js->aL n g ⟨d,op,ty,pos,aft,some (k,true)⟩ w v):gE n l T V ch St Pn g0 w0 i ⟨d,op,ty,pos,aft,some (k,true)⟩:=
 oG1 js S (aDo hc).1 (fun v w h=>ZW (by rw [(aDo (aDo hc).2).1] at h;exact h)) (aDo (aDo hc).2).2 h
theorem iG (x) (S:cW l T V ch St) (hc:(Da l ch i ⟨d,op,ty,pos,aft,none⟩ [] [x],kH V i)=(true,vE v)) (h:∀ {g w},T w0 w->g x=g0 x->aL n g ⟨d,op,ty,pos,aft,none⟩ w v):gE n l T V ch St Pn g0 w0 i ⟨d,op,ty,pos,aft,none⟩:=oW [] [x] S (aDo hc).1 fun _ _ t _ q=>dv (h t q.1) (by rw [(aDo hc).2])
theorem jA (x) (S:cW l T V ch St) (hc:(Da l ch i ⟨d,op,ty,pos,aft,none⟩ [] [x],kH V i)=(true,vE v)) (h:∀ {g w},g x=g0 x->aL n g ⟨d,op,ty,pos,aft,none⟩ w v):gE n l T V ch St Pn g0 w0 i ⟨d,op,ty,pos,aft,none⟩:=iG x S hc fun _=>h
theorem qI (x) (S:cW l T V ch St) (hc:(Da l ch i ⟨d,op,ty,pos,aft,some (k,true)⟩ [(k,lF l k)] [x]&&Nat.blt (lF l k) n,kH V k,kH V i)=(true,vE (.bool X),GV X (vE v))) (h:∀ {g w},X=true->g x=g0 x->aL n g ⟨d,op,ty,pos,aft,some (k,true)⟩ w v):gE n l T V ch St Pn g0 w0 i ⟨d,op,ty,pos,aft,some (k,true)⟩:=
 Yp [] [x] S (fun v w h=>YO (by rw [(aDo (aDo hc).2).1] at h;exact h)) (fun w e=>by rw [(aDo (aDo hc).2).2];exact Wz e) (fun e _ _ _ _ q=>dv (h e q.1) (by rw [(aDo (aDo hc).2).2];exact mY e rfl)) (aDo hc).1
theorem fW (x) (S:cW l T V ch St) (hc:(Da l ch i ⟨d,op,ty,pos,aft,some (k,false)⟩ [(k,lF l k)] [x]&&Nat.blt (lF l k) n,kH V k,kH V i)=(true,vE (.bool X),GV (!X) (vE v))) (h:∀ {g w},(!X)=true->g x=g0 x->aL n g ⟨d,op,ty,pos,aft,some (k,false)⟩ w v):gE n l T V ch St Pn g0 w0 i ⟨d,op,ty,pos,aft,some (k,false)⟩:=
 Yp [] [x] S (fun v w h=>YC (by rw [(aDo (aDo hc).2).1] at h;exact h)) (fun w e=>by rw [(aDo (aDo hc).2).2];exact Wz e) (fun e _ _ _ _ q=>dv (h e q.1) (by rw [(aDo (aDo hc).2).2];exact mY e rfl)) (aDo hc).1
theorem evT {g:Nat->Value} (h:Nat.blt x n=true):ev n g (.tmp x)=g x:=by simp only [ev,h];rfl
theorem bF (S:cW l T V ch St) (hc:(Da l ch i ⟨d,.move (.tmp x),ty,pos,aft,none⟩ [] [x],Nat.blt x n,kH V i)=(true,true,vE v)) (s:g0 x=v):gE n l T V ch St Pn g0 w0 i ⟨d,.move (.tmp x),ty,pos,aft,none⟩:=jA x S (by rw [(aDo hc).1,(aDo (aDo hc).2).2]) fun {g _} q=>by rw [<- s,<- q,<- evT (n:=n) (g:=g) (aDo (aDo hc).2).1];exact aT
theorem iP (S:cW l T V ch St) (hc:(Da l ch i ⟨d,.move (.tmp x),ty,pos,aft,some (k,true)⟩ [(k,lF l k)] [x]&&Nat.blt (lF l k) n,Nat.blt x n,kH V k,kH V i)=(true,true,vE (.bool X),GV X (vE v))) (s:g0 x=v):gE n l T V ch St Pn g0 w0 i ⟨d,.move (.tmp x),ty,pos,aft,some (k,true)⟩:=qI x S (by rw [(aDo hc).1,(aDo (aDo hc).2).2]) fun {g _} _ q=>by rw [<- s,<- q,<- evT (n:=n) (g:=g) (aDo (aDo hc).2).1];exact aT
theorem tW (S:cW l T V ch St) (hc:(Da l ch i ⟨d,.move (.tmp x),ty,pos,aft,some (k,false)⟩ [(k,lF l k)] [x]&&Nat.blt (lF l k) n,Nat.blt x n,kH V k,kH V i)=(true,true,vE (.bool X),GV (!X) (vE v))) (s:g0 x=v):gE n l T V ch St Pn g0 w0 i ⟨d,.move (.tmp x),ty,pos,aft,some (k,false)⟩:=fW x S (by rw [(aDo hc).1,(aDo (aDo hc).2).2]) fun {g _} _ q=>by rw [<- s,<- q,<- evT (n:=n) (g:=g) (aDo (aDo hc).2).1];exact aT
end
abbrev aD5:=@Rd.form'
structure KM (M:Nat->Prop) (W W':World):Prop where
 os:W'.os=W.os
 tape:W'.tape=W.tape
 output:W'.output=W.output
 size:W.heap.size<=W'.heap.size
 block:∀ i,i<W.heap.size->¬ M i->W'.heap[i]? = W.heap[i]?
section
variable {M M':Nat->Prop} {W A B C:World}
theorem KM.refl (M:Nat->Prop) (W):KM M W W:=⟨rfl,rfl,rfl,aDl _,fun _ _ _=>rfl⟩
theorem KM.trans (h:KM M A B) (k:KM M B C):KM M A C:=⟨k.os.trans h.os,k.tape.trans h.tape,k.output.trans h.output,aC7 h.size k.size,fun i hi hM=>(k.block i (aBi hi h.size) hM).trans (h.block i hi hM)⟩
theorem KM.mono (h:KM M A B) (hm:∀ i,i<A.heap.size->M i->M' i):KM M' A B:=⟨h.os,h.tape,h.output,h.size,fun i hi hM=>h.block i hi fun h=>hM (hm i hi h)⟩
theorem KM.below (h:KM M W A) (k:Below A.heap.size A B):KM M W B:=⟨k.os.trans h.os,k.tape.trans h.tape,k.output.trans h.output,aC7 h.size k.size,fun i hi hM=>(k.block i (aBi hi h.size)).trans (h.block i hi hM)⟩
theorem KM.only (h:KM M W A) (k:aS b A B) (hb:M b\/W.heap.size<=b):KM M W B:=⟨k.os.trans h.os,k.tape.trans h.tape,k.output.trans h.output,aC7 h.size k.size,fun i hi hM=>(k.block i (aBi hi h.size) (fun e=>by
 simp at e;subst e
 rcases hb with h | h
 ·exact hM h
 ·omega)).trans (h.block i hi hM)⟩
theorem KM.ofBelow (k:Below A.heap.size A B):KM M A B:=(KM.refl M A).below k
theorem KM.ofOnly (k:aS b A B) (hb:M b):KM M A B:=(KM.refl M A).only k (.inl hb)
theorem lL (W) (o):aS l W (W.putObj l o):=⟨rfl,rfl,rfl,by simp,fun i _ hn=>aAy (fun e=>hn (by rw [e]))⟩
theorem Bk.km (h:Bk b cs t A) (k:KM M A B) (hn:¬ M b):Bk b cs t B:=(k.block b h.lt hn).trans h
theorem Rd.km (h:Rd sz A v n c xs) (k:KM M A B) (hb:∀ b,v.ownBlock=some b->¬ M b):Rd sz B v n c xs:=by
 obtain ⟨h1,h2,h3,h4 | ⟨g,o,e,hg,hr⟩⟩:=h
 ·exact ⟨h1,h2,h3,.inl h4⟩
 ·subst e
  have hne:=hb g rfl
  exact ⟨h1,h2,h3,.inr ⟨g,o,rfl,aBi hg k.size,fun j u hu=>by
   have:=hr j u hu
   rw [<- this]
   unfold World.cell?
   rw [k.block g hg hne]⟩⟩
theorem KM.toBelow (h:KM M A B) (k:Below S w0 A) (hS:S<=A.heap.size) (hM:∀ i,M i->S<=i):Below S w0 B:=
 k.trans ⟨h.os,h.tape,h.output,h.size,fun i hi=>h.block i (by omega) fun hm=>by have:=hM i hm;omega⟩
end
def vP (l:Nat) (args:List Value) (W:World) (R:Ending->World->Prop):Prop:=YieldAt (FR none) 0 prog l args.toArray W R
theorem vP.mono {R R':Ending->World->Prop} (h:vP l args W R) (k:∀ e w,R e w->R' e w):vP l args W R':=
 let ⟨fn,t,a,b,h1,h2⟩:=h;⟨fn,t,a,b,h1,h2.mono k⟩
abbrev yf (l:Nat):Value:=.func (.yield l) #[] #[]
section
variable {n:Nat} {ds:List Deferred} {g:Nat->Value} {w:World} {Q:Exit->Act->World->Prop} {l:List Oper} {ops:Array Oper} {ty:TypeId} {pos:String} {aft:Array Edge} {d:Tmp} {x:Operand}
theorem cy {xs:List Operand} {R:Ending->World->Prop} (hx:ev n g x=yf k) (ha:args=xs.map (ev n g)) (hc:vP k args w R)
  (h:∀ v w',R (.returned v) w'->dY none ops Q l (fr n ds (up g d v)) w') (hp:∀ c w',R (.panicked c) w'->Q (.panic c) (fr n ds g) w') (ho:∀ w',R .outgrown w'->False):
  dY none ops Q (⟨some d,.call ⟨.value x,xs.toArray,ts⟩,ty,pos,aft,none⟩::l) (fr n ds g) w:=by
 refine eM rfl fun K hK=>?_
 obtain ⟨fn,tmps,assign,body,hy,hr⟩:=hc
 refine ⟨fun _ _=>trivial,?_⟩
 have hrun:(execOp (fr n ds g).eval ⟨some d,.call ⟨.value x,xs.toArray,ts⟩,ty,pos,aft,none⟩).run prog w=.ok (.round k fn tmps assign body) w:=by
  subst ha
  unfold execOp
  rw [bV]
  simp [resolve,hx,Deferred.ofValue,invoke,hy]
 show Oper.uponIn (FR none) 0 prog _ _ K Q ((execOp (fr n ds g).eval ⟨some d,.call ⟨.value x,xs.toArray,ts⟩,ty,pos,aft,none⟩).run prog w)
 rw [hrun]
 refine ⟨fun h=>(by cases h),hr.mono ?_⟩
 intro e w' he
 cases e with
 | returned v=>
  show K ((fr n ds g).put (some d) v) w'
  rw [fF]
  exact hK _ _ (h v w' he)
 | panicked c=>exact hp c w' he
 | outgrown=>exact (ho w' he).elim
end
def Iv (l:Nat) (R:Ending->World->Prop):Exit->Act->World->Prop
 | .panic chain,a,w=>a.defers=[]/\R (.panicked chain) w
 | e,a,w=>roundPost prog l R e a w
theorem Ml (hfn:prog.funcs[f]? = some fn) {tmps:Array Value} {R:Ending->World->Prop}
  (h:Wp (some l) assign (Exit.then (fun a₁ w₁=>∃ w₂,(Instr.beginRound l).run prog w₁=.ok () w₂/\Wp (some l) body (Iv l R) a₁ w₂) (fun e a w=>match e with | .panic chain=>a.defers=[]/\R (.panicked chain) w | _=>False)) { tmps:=tmps,defers:=[] } w):
  RoundIn (FR none) 0 prog l f tmps assign body w R:=by
 refine ⟨trivial,fun c cs _=>?_⟩
 let b:Frame:={ (default:Frame) with fn:=f,kind:=.normal,roundOf:=some l }
 have hb0:Frame.round l f tmps assign body .normal=b.atR { tmps:=tmps,defers:=[] } [.code assign,.beginRound,.code body]:=by
  simp [Frame.round,Frame.atR,b]
 have hr':(FR (some l)).room ((c::cs).length+1+0):=rD _ _
 have hF':(FR (some l)).fn b.fn:=trivial
 have hpan:∀ (a:Act) (todo:List Item) (chain:List PanicEntry) (w₁:World),a.defers=[] ->
   StepsIn (Machine.fenced prog (FR (some l))) prog (lone { b.atR a todo with mode:=.panicking chain } (c::cs) w₁) (lone (c.raise chain) cs w₁):=fun a todo chain w₁ hd=>
  .one (fenced_leaving (fr:={ b.atR a todo with mode:=.panicking chain }) (e:=.panicked chain) hF' hr' ⟨rfl,hd,fn,hfn⟩) (step_leave_panicked ⟨rfl,hd,fn,hfn⟩)
 obtain ⟨e,a₁,w₁,hq,harr⟩:=h b [.beginRound,.code body] (c::cs) rfl hF' hr'
 rw [<- hb0] at harr
 cases e with
 | normal=>
  obtain ⟨w₂,hbr,hbody⟩:=hq
  have s1:StepsIn (Machine.fenced prog (FR (some l))) prog (lone (b.atR a₁ [.beginRound,.code body]) (c::cs) w₁) (lone (b.atR a₁ [.code body]) (c::cs) w₂):=
   .one (fenced_calm (fr:=b.atR a₁ [.beginRound,.code body]) hF' hr' rfl) (stepR_beginRound rfl hbr)
  obtain ⟨e₂,a₂,w₃,hq₂,harr₂⟩:=hbody b [] (c::cs) rfl hF' hr'
  cases e₂ with
  | normal=>
   obtain ⟨v,w₄,hend,hR⟩:=hq₂
   exact ⟨.returned v,w₄,hR,(aC2 harr s1).trans (aC2 harr₂ (.one (fenced_calm (fr:=b.atR a₂ []) hF' hr' rfl) (stepR_round_end rfl rfl hend)))⟩
  | ret=>
   obtain ⟨v,w₄,hend,hR⟩:=hq₂
   obtain ⟨k₁,hs⟩:=harr₂.2 rfl
   exact ⟨.returned v,w₄,hR,(aC2 harr s1).trans (aC2 hs (.one (fenced_calm (fr:=b.atR a₂ (.code .ret::k₁)) hF' hr' rfl) (stepR_round_ret rfl rfl hend)))⟩
  | exit id=>
   obtain ⟨v,w₄,hend,hR⟩:=hq₂
   obtain ⟨k₁,hk,hs⟩:=harr₂.2 rfl rfl
   exact ⟨.returned v,w₄,hR,(aC2 harr s1).trans (aC2 hs (.one (fenced_calm (fr:=b.atR a₂ (.code (.exit id)::k₁)) hF' hr' rfl) (stepR_round_exit rfl rfl hk hend)))⟩
  | goto t=>
   obtain ⟨v,w₄,hend,hR⟩:=hq₂
   obtain ⟨k₁,hk,hs⟩:=harr₂.2 rfl rfl
   exact ⟨.returned v,w₄,hR,(aC2 harr s1).trans (aC2 hs (.one (fenced_calm (fr:=b.atR a₂ (.code (.goto t)::k₁)) hF' hr' rfl) (stepR_round_goto rfl rfl hk hend)))⟩
  | panic chain=>
   obtain ⟨hd,hR⟩:=hq₂
   obtain ⟨todo,hs⟩:=harr₂
   exact ⟨.panicked chain,w₃,hR,(aC2 harr s1).trans (aC2 hs (hpan a₂ todo chain w₃ hd))⟩
  | outgrown=>exact hq₂.elim
 | exit id=>exact hq.elim
 | goto t=>exact hq.elim
 | ret=>exact hq.elim
 | panic chain=>
  obtain ⟨hd,hR⟩:=hq
  obtain ⟨todo,hs⟩:=harr
  exact ⟨.panicked chain,w₁,hR,aC2 hs (hpan a₁ todo chain w₁ hd)⟩
 | outgrown=>exact hq.elim
def Ws (J:Nat->(Nat->Prop)->Nat->World->Prop) (S:Nat) (R:Nat->Prop) (k:Nat) (A B:World):Prop:=
 ∃ R',J S R' k B/\∀ i,R' i->R i\/A.heap.size<=i/\i<B.heap.size
def BE (J:Nat->(Nat->Prop)->Nat->World->Prop) (Jx:Nat->World->Prop) (Pn:List PanicEntry->World->Prop) (m len:Nat) (e:Ending) (B:World):Prop:=
 (∃ v,e=.returned v/\∃ S R,m<=S/\S<=B.heap.size/\(J S R len B\/Jx S B))\/(∃ c,e=.panicked c/\Pn c B)
def Ry {α:Type} (gf:FuncId) (lb:List Value) (aR:α->List Value) (xs:List α) (Mok:(Nat->Prop)->Prop) (w0:World):Prop:=
 ∀ (l:Nat) (M:Nat->Prop) (J:Nat->(Nat->Prop)->Nat->World->Prop) (Jx:Nat->World->Prop) (Pn:List PanicEntry->World->Prop) (W:World),Below w0.heap.size w0 W->Mok M->(∀ i,W.heap.size<=i->¬ M i) ->
  (∀ S R k A B,J S R k A->KM (fun i=>W.heap.size<=i/\i<S) A B->J S R k B)->(∀ S A B,Jx S A->KM (fun i=>W.heap.size<=i/\i<S) A B->Jx S B) ->
  (∀ A,Below W.heap.size W A->J A.heap.size (fun _=>False) 0 A) ->
  (∀ S R k A,(hk:k<xs.length)->J S R k A->W.heap.size<=S->S<=A.heap.size->(∀ i,R i->S<=i/\i<A.heap.size)->vP l (aR xs[k]) A fun e B=>
   (e=.returned (.bool true)/\Ws J S R (k+1) A B/\KM (fun i=>M i\/R i) A B)\/(e=.returned (.bool false)/\Jx S B/\KM (fun i=>M i\/R i) A B)\/(∃ c,e=.panicked c/\Pn c B)) ->
  Calls prog gf (yf l::lb).toArray W (BE J Jx Pn W.heap.size xs.length)
def ups (g:Nat->Value):List (Nat × Value)->Nat->Value
 | []=>g
 | p::r=>ups (up g p.1 p.2) r
theorem NJ (n):∀ (l:List (Nat × Value)) (g:Nat->Value),l.foldl (fun t p=>t.setIfInBounds p.1 p.2) (fr n [] g).tmps=(fr n [] (ups g l)).tmps
 | [],_=>rfl
 | p::r,g=>by
  have:=fF n [] g p.1 p.2
  unfold Act.put at this
  have h:=aD7 Act.tmps this
  simp only at h
  rw [List.foldl_cons,h]
  exact NJ n r _
section
variable {n:Nat} {ds:List Deferred} {g:Nat->Value} {w:World} {Q:Exit->Act->World->Prop}
def rpost (J:World->Prop) (Jx:Code->World->Prop) (Pn:List PanicEntry->World->Prop) (K:World->Prop):Exit->Act->World->Prop
 | .normal,_,w=>J w/\K w
 | .ret,_,w=>Jx .ret w/\K w
 | .exit id,_,w=>Jx (.exit id) w/\K w
 | .goto t,_,w=>Jx (.goto t) w/\K w
 | .panic c,a,w=>a.defers=[]/\Pn c w/\K w
 | .outgrown,_,_=>False
abbrev rS (D:Nat):Deferred:={ target:=.collected D,args:=#[] }
def At (f:FuncId) (c:Code) (Q:Exit->Act->World->Prop) (a:Act) (w:World):Prop:=
 ∀ (b:Frame) (k:List Item) (cs:List Frame),b.roundOf=none->b.fn=f ->
  ∃ e a' w',Q e a' w'/\ArrivesIn (Machine.fenced prog (FR none)) prog (lone (b.atR a (.code c::k)) cs w) b k cs e a' w'
theorem Ae (h:Wp none c Q a w):At f c Q a w:=fun b k cs hr _=>h b k cs hr trivial (rD _ _)
theorem jI (h:At f x (Exit.then (At f y Q) Q) a w):At f (Code.seq x y) Q a w:=by
 intro b k cs hro hb
 have hr:(FR none).room (cs.length+1+0):=rD _ _
 have h0:(lone (b.atR a (.code (.seq x y)::k)) cs w).fenced prog (FR none):=fenced_calm (n:=0) trivial hr rfl
 obtain ⟨e,a₁,w₁,hq,harr⟩:=h b (.code y::k) cs hro hb
 cases e with
 | normal=>
  obtain ⟨e₂,a₂,w₂,hq₂,harr₂⟩:=hq b k cs hro hb
  exact ⟨e₂,a₂,w₂,hq₂,.of_steps (.head h0 stepR_seq harr) harr₂⟩
 | exit id=>exact ⟨_,a₁,w₁,hq,.of_steps (.one h0 stepR_seq) (.pass (x:=.code y) rfl (fun _ _=>.inl (by simp)) harr)⟩
 | goto l=>exact ⟨_,a₁,w₁,hq,.of_steps (.one h0 stepR_seq) (.pass (x:=.code y) rfl (fun _ _=>.inl (by simp)) harr)⟩
 | ret=>exact ⟨_,a₁,w₁,hq,.of_steps (.one h0 stepR_seq) (.pass (x:=.code y) rfl (fun _ _=>.inl (by simp)) harr)⟩
 | panic ch=>exact ⟨_,a₁,w₁,hq,.of_steps (.one h0 stepR_seq) (.pass (x:=.code y) rfl (fun _ _=>.inl (by simp)) harr)⟩
 | outgrown=>exact ⟨_,a₁,w₁,hq,.of_steps (.one h0 stepR_seq) (.pass (x:=.code y) rfl (fun _ _=>.inl (by simp)) harr)⟩
theorem wZ {f:FuncId} {id:Nat} {c:Code} {a:Act} (h:At f c (Exit.inBlock id Q) a w):At f (Code.block id c) Q a w:=by
 intro b k cs hro hb
 have hr:(FR none).room (cs.length+1+0):=rD _ _
 have h0:(lone (b.atR a (.code (.block id c)::k)) cs w).fenced prog (FR none):=fenced_calm (n:=0) trivial hr rfl
 obtain ⟨e,a₁,w₁,hq,harr⟩:=h b (.inBlock id::k) cs hro hb
 cases e with
 | normal=>exact ⟨.normal,a₁,w₁,hq,.head h0 stepR_block (aC2 harr (.one (fenced_calm (n:=0) trivial hr rfl) stepR_inBlock))⟩
 | exit id'=>
  by_cases hid:id'=id
  ·subst hid
   have hq':Q .normal a₁ w₁:=by simpa [Exit.inBlock] using hq
   exact ⟨.normal,a₁,w₁,hq',.head h0 stepR_block (harr.1 k (by simp [exitTo]))⟩
  ·have hq':Q (.exit id') a₁ w₁:=by simpa [Exit.inBlock,hid] using hq
   have hne:(id == id')=false:=by simp;exact fun h=>hid h.symm
   have hx:exitTo id' (.inBlock id::k)=exitTo id' k:=by simp [exitTo,hne]
   exact ⟨.exit id',a₁,w₁,hq',fun k' hk=>.head h0 stepR_block (harr.1 k' (by rw [hx];exact hk)),fun hr'=>by rw [hro] at hr';cases hr'⟩
 | goto l=>
  have hx:gotoIn l (.inBlock id::k)=gotoIn l k:=by simp [gotoIn]
  exact ⟨_,a₁,w₁,hq,fun k' hk=>.head h0 stepR_block (harr.1 k' (by rw [hx];exact hk)),fun hr'=>by rw [hro] at hr';cases hr'⟩
 | ret=>exact ⟨_,a₁,w₁,hq,.of_steps (.one h0 stepR_block) harr⟩
 | panic ch=>exact ⟨_,a₁,w₁,hq,.of_steps (.one h0 stepR_block) harr⟩
 | outgrown=>exact ⟨_,a₁,w₁,hq,.of_steps (.one h0 stepR_block) harr⟩
theorem Pv {args:Array Value} {R:Ending->World->Prop} (hf:prog.funcs[f]? = some fn) (hb:fn.body=some c)
  (h:At f c (bodyPostM (FR none) 0 prog fn R) { tmps:=args++Array.replicate (fn.ntmps - args.size) undef,defers:=[] } w):Calls prog f args w R:=by
 refine (Bo (r:=none) (m:=0)).1 ⟨trivial,fun cs hr=>?_⟩
 have hF:(FR none).fn f:=trivial
 let b:Frame:={ (default:Frame) with fn:=f,kind:=.normal,roundOf:=none }
 have henter:Frame.enter prog f args .normal =
   b.atR { tmps:=args++Array.replicate (fn.ntmps - args.size) undef,defers:=[] } [.code c]:=by
  simp [Frame.enter,Frame.atR,hf,hb,b]
 obtain ⟨e,a',w',hq,harr⟩:=h b [] cs rfl rfl
 rw [<- henter] at harr
 cases e with
 | normal=>
  obtain ⟨e',w'',fr',hR,hs,hfn,hl⟩:=leaves_stepsInM a'.defers .returning w' { b.atR a' [] with mode:=.returning } cs rfl rfl rfl hf rfl hF hr hq
  exact ⟨e',w'',fr',hR,ComesIn.of_steps (aC2 harr (.one (fenced_calm (fr:=b.atR a' []) hF hr rfl) (stepR_end rfl))) hs,hfn,hl⟩
 | ret=>
  obtain ⟨todo,hs₀⟩:=harr.1 rfl
  obtain ⟨e',w'',fr',hR,hs,hfn,hl⟩:=leaves_stepsInM a'.defers .returning w' { b.atR a' todo with mode:=.returning } cs rfl rfl rfl hf rfl hF hr hq
  exact ⟨e',w'',fr',hR,ComesIn.of_steps hs₀ hs,hfn,hl⟩
 | panic chain=>
  obtain ⟨todo,hs₀⟩:=harr
  obtain ⟨e',w'',fr',hR,hs,hfn,hl⟩:=leaves_stepsInM a'.defers (.panicking chain) w' { b.atR a' todo with mode:=.panicking chain } cs rfl rfl rfl hf rfl hF hr hq
  exact ⟨e',w'',fr',hR,ComesIn.of_steps hs₀ hs,hfn,hl⟩
 | exit id=>exact hq.elim
 | goto l=>exact hq.elim
 | outgrown=>exact ⟨.outgrown,w',b,hq,harr.resolve_left (by simp [b]),rfl,trivial⟩
theorem tA {α:Type} {gop:Operand} {ps:Array Tmp} {assign body:Code} {gf:FuncId} {lb:List Value} {f0:FuncId} {fn0:Func} (hf0:prog.funcs[f0]? = some fn0) (hg:ev n g gop=.func (.func gf) #[] lb.toArray) (eg:EN gf)
  {aR:α->List Value} {xs:List α} {Mok:(Nat->Prop)->Prop} (hit:Ry gf lb aR xs Mok w) (hps:∀ x,(aR x).length=ps.size) (M:Nat->Prop) (hM:∀ i,w.heap.size<=i->¬ M i) (hMok:Mok fun i=>M i\/i=w.heap.size+1)
  (J:Nat->(Nat->Prop)->Nat->World->Prop) (Jx:Nat->Code->World->Prop) (Pn:List PanicEntry->World->Prop)
  (st:∀ S R k A B,J S R k A->KM (fun i=>w.heap.size<=i/\i<S) A B->J S R k B) (stx:∀ S c A B,Jx S c A->KM (fun i=>w.heap.size<=i/\i<S) A B->Jx S c B)
  (j0:∀ A,Below w.heap.size w A->J A.heap.size (fun _=>False) 0 A)
  (hbody:∀ S R k A,(hk:k<xs.length)->J S R k A->w.heap.size+1<A.heap.size->w.heap.size+2<=S->S<=A.heap.size->(∀ i,R i->S<=i/\i<A.heap.size) ->
   Wp (some (w.heap.size+1)) assign (Exit.then (fun a B=>KM (fun i=>M i\/R i) A B/\∀ B',aS (w.heap.size+1) B B'->Wp (some (w.heap.size+1)) body (rpost (Ws J S R (k+1) A) (Jx S) Pn (KM (fun i=>M i\/R i) B')) a B') (fun _ _ _=>False)) (fr n [] (ups g (ps.toList.zip (aR xs[k])))) A)
  (hpan:∀ c B,Pn c B->B.heap[w.heap.size]? = some (.deferred (some []))->Q (.panic c) (fr n (rS w.heap.size::ds) g) B)
  (hdone:∀ S R B,J S R xs.length B->w.heap.size+2<=S->S<=B.heap.size->B.heap[w.heap.size]? = some (.deferred (some []))->Q .normal (fr n (rS w.heap.size::ds) g) B)
  (hstop:∀ S c B,Jx S c B->w.heap.size+2<=S->S<=B.heap.size->B.heap[w.heap.size]? = some (.deferred (some []))->At f0 c Q (fr n (rS w.heap.size::ds) g) B):At f0 (.rangeFunc gop ps assign body) Q (fr n ds g) w:=by
 intro b k cs hro hb
 have hr:(FR none).room (cs.length+1+0):=rD _ _
 obtain ⟨rec,hrec⟩:∃ rec:LoopState->Option Code->Loop,rec=fun st pe=>{ state:=st,pending:=pe,fn:=b.fn,tmps:=(fr n ds g).tmps,params:=ps,assign,body,defers:=w.heap.size }:=⟨_,rfl⟩
 obtain ⟨W1,hW1⟩:∃ W1,(w.alloc (.deferred (some []))).alloc (.loop (rec .ready none))=W1:=⟨_,rfl⟩
 have hsz:W1.heap.size=w.heap.size+2:=by rw [<- hW1];simp
 have hL1:W1.heap[w.heap.size+1]? = some (.loop (rec .ready none)):=by
  rw [<- hW1];have:=World.alloc_heap_new (w.alloc (.deferred (some []))) (.loop (rec .ready none));rwa [aB6] at this
 have hK1:W1.heap[w.heap.size]? = some (.deferred (some [])):=by
  rw [<- hW1];exact (Below.heap_alloc _ _ _ (by simp)).trans (World.alloc_heap_new w _)
 have hb1:Below w.heap.size w W1:=by
  rw [<- hW1];exact ((aDt _ w).alloc (aDl _) _).alloc (by simp) _
 have he:(Instr.enterLoop b.fn (fr n ds g).tmps ps assign body b.roundOf).run prog w=.ok (w.heap.size+1,[rS w.heap.size]) W1:=by
  rw [hro,<- hW1,hrec];exact run_enterLoop_outer _ _ _ _ _
 have hres:(resolve (fr n ds g).eval (rangeCall gop (w.heap.size+1)) 0).run prog W1=.ok { target:=.fn (.func gf) lb.toArray,args:=#[.func (.yield (w.heap.size+1)) #[] #[]] } W1:=by
  have hg':(fr n ds g).eval gop=.func (.func gf) #[] lb.toArray:=by rw [bV];exact hg
  simp only [resolve,hg']
  simp [go_sem]
 have hinv:(invoke (.fn (.func gf) lb.toArray) #[.func (.yield (w.heap.size+1)) #[] #[]]).run prog W1=.ok (.enter gf (#[.func (.yield (w.heap.size+1)) #[] #[]]++lb.toArray)) W1:=by
  simp [invoke, go_sem, eg]
 have h0:(lone (b.atR (fr n ds g) (.code (.rangeFunc gop ps assign body)::k)) cs w).fenced prog (FR none):=fenced_lone (.inl trivial) (fun _ _=>trivial) (Fence.room_le hr (by omega))
 have henter:=stepR_rangeFunc (P:=prog) (b:=b) (a:=fr n ds g) (k:=k) (cs:=cs) (w:=w) he hres hinv
 have hcall:=hit (w.heap.size+1) (fun i=>M i\/i=w.heap.size+1)
  (fun S R j W=>J S R j W/\W1.heap.size<=S/\S<=W.heap.size/\W.heap[w.heap.size+1]? = some (.loop (rec .ready none))/\W.heap[w.heap.size]? = some (.deferred (some [])))
  (fun S W=>∃ c,Jx S c W/\W1.heap.size<=S/\S<=W.heap.size/\W.heap[w.heap.size+1]? = some (.loop (rec .done (some c)))/\W.heap[w.heap.size]? = some (.deferred (some [])))
  (fun c B=>Pn c B/\B.heap[w.heap.size]? = some (.deferred (some []))) W1 hb1 hMok (fun i hi h=>by rcases h with h | h;exact hM i (by omega) h;omega)
  (fun S R j A B h hk=>by
   obtain ⟨h1,h2,h3,h4,h5⟩:=h
   refine ⟨st S R j A B h1 (hk.mono fun i _ hi=>⟨by omega,hi.2⟩),h2,aC7 h3 hk.size,(hk.block _ (by omega) (fun h=>by omega)).trans h4,(hk.block _ (by omega) (fun h=>by omega)).trans h5⟩)
  (fun S A B h hk=>by
   obtain ⟨c,h1,h2,h3,h4,h5⟩:=h
   refine ⟨c,stx S c A B h1 (hk.mono fun i _ hi=>⟨by omega,hi.2⟩),h2,aC7 h3 hk.size,(hk.block _ (by omega) (fun h=>by omega)).trans h4,(hk.block _ (by omega) (fun h=>by omega)).trans h5⟩)
  (fun A hA=>⟨j0 A (hb1.trans (hA.mono (by omega))),hA.size,aDl _,(hA.block _ (by omega)).trans hL1,(hA.block _ (by omega)).trans hK1⟩)
  (fun S R j A hj hJ hWS hSA hRb=>by
   have hM:∀ i,w.heap.size<=i->i<w.heap.size+2->¬ (M i\/R i):=fun i hi h2 h=>by
    rcases h with h | h
    ·exact hM i hi h
    ·have:=(hRb i h).1;omega
   obtain ⟨h1,h2,h3,h4,h5⟩:=hJ
   have hy:=run_yield (P:=prog) (args:=(aR xs[j]).toArray) h4 (by rw [hrec];simpa using hps xs[j])
   rw [hrec] at hy
   have hfold:(ps.zip (aR xs[j]).toArray).foldl (fun tmps (t,a)=>tmps.setIfInBounds t a) (fr n ds g).tmps=(fr n [] (ups g (ps.toList.zip (aR xs[j])))).tmps:=by
    rw [<- NJ n (ps.toList.zip (aR xs[j])) g]
    rw [<- Array.foldl_toList]
    simp
    rfl
   rw [hfold] at hy
   refine ⟨b.fn,_,assign,body,hy,Ml (fn:=fn0) (by rw [hb];exact hf0) ?_⟩
   refine vH (hbody S R j A hj h1 (by omega) (by omega) hSA hRb) ?_
   rintro e a B hq
   cases e with
   | normal=>
    obtain ⟨hKM,hq⟩:=hq
    have hl4:B.heap[w.heap.size+1]? = some (.loop (rec .ready none)):=(hKM.block _ (by omega) (hM _ (by omega) (by omega))).trans h4
    have hd4:B.heap[w.heap.size]? = some (.deferred (some [])):=(hKM.block _ (by omega) (hM _ (aDl _) (by omega))).trans h5
    have hls:w.heap.size+1<B.heap.size:=aBi (by omega) hKM.size
    refine ⟨_,run_beginRound hl4 (by rw [hrec]),?_⟩
    refine vH (hq _ (lL _ _)) ?_
    have hl5:(B.putObj (w.heap.size+1) (.loop { rec .ready none with state:=.busy })).heap[w.heap.size+1]? = some (.loop { rec .ready none with state:=.busy }):=World.putObj_heap_same hls
    have hd5:(B.putObj (w.heap.size+1) (.loop { rec .ready none with state:=.busy })).heap[w.heap.size]? = some (.deferred (some [])):=(aAy (by omega)).trans hd4
    have hA2:KM (fun i=>(M i\/i=w.heap.size+1)\/R i) A (B.putObj (w.heap.size+1) (.loop { rec .ready none with state:=.busy })):=(hKM.mono fun i _ h=>h.imp .inl id).only (lL _ _) (.inl (.inl (.inr rfl)))
    have fin:∀ (jump:Option Code) (C:World),KM (fun i=>M i\/R i) (B.putObj (w.heap.size+1) (.loop { rec .ready none with state:=.busy })) C ->
      (Instr.endRound (w.heap.size+1) jump).run prog C=.ok (.bool jump.isNone) (C.putObj (w.heap.size+1) (.loop (rec (if jump.isNone then .ready else .done) jump))) /\
      (C.putObj (w.heap.size+1) (.loop (rec (if jump.isNone then .ready else .done) jump))).heap[w.heap.size+1]? = some (.loop (rec (if jump.isNone then .ready else .done) jump)) /\
      (C.putObj (w.heap.size+1) (.loop (rec (if jump.isNone then .ready else .done) jump))).heap[w.heap.size]? = some (.deferred (some [])) /\
      KM (fun i=>(M i\/i=w.heap.size+1)\/R i) A (C.putObj (w.heap.size+1) (.loop (rec (if jump.isNone then .ready else .done) jump))) /\
      KM (fun i=>w.heap.size<=i/\i<S) C (C.putObj (w.heap.size+1) (.loop (rec (if jump.isNone then .ready else .done) jump)))/\S<=C.heap.size:=fun jump C hC=>by
     have hl6:=(hC.block _ (by simpa using hls) (hM _ (by omega) (by omega))).trans hl5
     have hd6:=(hC.block _ (by simp;omega) (hM _ (aDl _) (by omega))).trans hd5
     have:=run_endRound (P:=prog) jump hl6
     rw [hrec] at this ⊢
     refine ⟨this,World.putObj_heap_same (Array.getElem?_eq_some_iff.1 hl6).1,(aAy (by omega)).trans hd6,(hA2.trans (hC.mono fun i _ h=>h.imp .inl id)).only (lL _ _) (.inl (.inl (.inr rfl))),KM.ofOnly (lL _ _) ⟨by omega,by omega⟩,?_⟩
     have:=hC.size
     have:=hA2.size
     omega
    rintro e2 a2 C hp
    cases e2 with
    | normal=>
     obtain ⟨⟨R',hJ3,hRs⟩,hC⟩:=hp
     obtain ⟨q1,q2,q3,q4,q5,q6⟩:=fin none C hC
     exact ⟨_,_,q1,.inl ⟨rfl,⟨R',⟨st _ _ _ _ _ hJ3 q5,h2,by simpa using q6,q2,q3⟩,fun i hi=>(hRs i hi).imp id fun h=>⟨h.1,by simpa using h.2⟩⟩,q4⟩⟩
    | ret=>
     obtain ⟨hJ3,hC⟩:=hp
     obtain ⟨q1,q2,q3,q4,q5,q6⟩:=fin (some .ret) C hC
     exact ⟨_,_,q1,.inr (.inl ⟨rfl,⟨.ret,stx _ _ _ _ hJ3 q5,h2,by simpa using q6,q2,q3⟩,q4⟩)⟩
    | exit id=>
     obtain ⟨hJ3,hC⟩:=hp
     obtain ⟨q1,q2,q3,q4,q5,q6⟩:=fin (some (.exit id)) C hC
     exact ⟨_,_,q1,.inr (.inl ⟨rfl,⟨.exit id,stx _ _ _ _ hJ3 q5,h2,by simpa using q6,q2,q3⟩,q4⟩)⟩
    | goto t=>
     obtain ⟨hJ3,hC⟩:=hp
     obtain ⟨q1,q2,q3,q4,q5,q6⟩:=fin (some (.goto t)) C hC
     exact ⟨_,_,q1,.inr (.inl ⟨rfl,⟨.goto t,stx _ _ _ _ hJ3 q5,h2,by simpa using q6,q2,q3⟩,q4⟩)⟩
    | panic c=>exact ⟨hp.1,.inr (.inr ⟨c,rfl,hp.2.1,(hp.2.2.block _ (by simp;omega) (hM _ (aDl _) (by omega))).trans hd5⟩)⟩
    | outgrown=>exact hp.elim
   | exit id=>exact hq.elim
   | goto t=>exact hq.elim
   | ret=>exact hq.elim
   | panic ch=>exact hq.elim
   | outgrown=>exact hq.elim)
 have hargs:(yf (w.heap.size+1)::lb).toArray=#[.func (.yield (w.heap.size+1)) #[] #[]]++lb.toArray:=by simp
 rw [hargs] at hcall
 obtain ⟨e,w₃,fr',hR,hsteps,hfn,hleave⟩:=((Bo (r:=none) (m:=0)).2 hcall).2 (b.atR { (fr n ds g) with defers:=[rS w.heap.size]++(fr n ds g).defers } (.inRangeFunc (w.heap.size+1)::k)::cs) (rD _ _)
 have hl:∀ ee,fr'.leaving prog w₃ ee->(lone fr' (b.atR { (fr n ds g) with defers:=[rS w.heap.size]++(fr n ds g).defers } (.inRangeFunc (w.heap.size+1)::k)::cs) w₃).fenced prog (FR none):=fun ee h=>fenced_lone (.inl trivial) (fun _ _=>trivial) (rD _ _)
 rcases hR with ⟨⟨v,rfl,S,R,hS1,hS2,hR⟩⟩ | ⟨c,rfl,hP⟩
 ·have sback:∀ jump w₄,(Instr.endLoop (w.heap.size+1)).run prog w₃=.ok jump w₄->StepsIn (Machine.fenced prog (FR none)) prog (lone (b.atR (fr n ds g) (.code (.rangeFunc gop ps assign body)::k)) cs w) (lone (b.atR (fr n (rS w.heap.size::ds) g) ((jump.map Item.code).toList++k)) cs w₄):=fun jump w₄ hend=>by
   refine .head h0 henter (aC2 hsteps (.head (hl _ hleave) ?_ (.one (fenced_calm (n:=0) (fr:=b.atR (fr n (rS w.heap.size::ds) g) (.endRangeFunc (w.heap.size+1)::k)) trivial hr rfl) (stepR_endRangeFunc hend))))
   rw [show b.atR (fr n (rS w.heap.size::ds) g) (.endRangeFunc (w.heap.size+1)::k)=(b.atR (fr n (rS w.heap.size::ds) g) (.inRangeFunc (w.heap.size+1)::k)).finish v from (finish_atR_inRangeFunc (w.heap.size+1) v).symm];exact step_leave_returned hleave
  rcases hR with ⟨h1,h2,h3,h4,h5⟩ | ⟨c,h1,h2,h3,h4,h5⟩
  ·have hend:=run_endLoop (P:=prog) h4 (by rw [hrec];simp)
   have hk:KM (fun i=>w.heap.size<=i/\i<S) w₃ (w₃.putObj (w.heap.size+1) (.loop { rec .ready none with state:=.exhausted })):=KM.ofOnly (lL _ _) ⟨by omega,by omega⟩
   have hpend:(rec .ready none).pending=none:=by rw [hrec]
   have hend2:=hend.trans (aD7 (fun p=>Result.ok p _) hpend)
   exact ⟨.normal,_,_,hdone S R _ (st _ _ _ _ _ h1 hk) (by omega) (by simpa using hS2) ((aAy (by omega)).trans h5),sback none _ hend2⟩
  ·have hend:=run_endLoop (P:=prog) h4 (by rw [hrec];simp)
   have hk:KM (fun i=>w.heap.size<=i/\i<S) w₃ (w₃.putObj (w.heap.size+1) (.loop { rec .done (some c) with state:=.exhausted })):=KM.ofOnly (lL _ _) ⟨by omega,by omega⟩
   have hpend:(rec .done (some c)).pending=some c:=by rw [hrec]
   have hend2:=hend.trans (aD7 (fun p=>Result.ok p _) hpend)
   obtain ⟨e',a'',w₅,hq,harr⟩:=hstop S c _ (stx _ _ _ _ h1 hk) (by omega) (by simpa using hS2) ((aAy (by omega)).trans h5) b k cs hro hb
   exact ⟨e',a'',w₅,hq,.of_steps (sback (some c) _ hend2) harr⟩
 ·refine ⟨.panic c,fr n (rS w.heap.size::ds) g,w₃,hpan c w₃ hP.1 hP.2,.inRangeFunc (w.heap.size+1)::k,.head h0 henter (aC2 hsteps (.one (hl _ hleave) ?_))⟩
  rw [show ({ b.atR (fr n (rS w.heap.size::ds) g) (.inRangeFunc (w.heap.size+1)::k) with mode:=.panicking c }:Frame)=(b.atR (fr n (rS w.heap.size::ds) g) (.inRangeFunc (w.heap.size+1)::k)).raise c from (Frame.raise_atR b (fr n (rS w.heap.size::ds) g) (.inRangeFunc (w.heap.size+1)::k) c).symm];exact step_leave_panicked hleave
end
section
variable {n:Nat} {ds:List Deferred} {g:Nat->Value} {w:World} {Q:Exit->Act->World->Prop} {l:List Oper} {ops:Array Oper} {ty:TypeId} {pos:String} {aft:Array Edge} {d:Tmp} {x:Operand}
theorem cyB {xs:List Operand} {M:Nat->Prop} {J1 Jx1:World->Prop} {Pn:List PanicEntry->World->Prop} (hx:ev n g x=yf k) (ha:args=xs.map (ev n g))
  (hc:vP k args w fun e B=>(e=.returned (.bool true)/\J1 B/\KM M w B)\/(e=.returned (.bool false)/\Jx1 B/\KM M w B)\/∃ c,e=.panicked c/\Pn c B)
  (hp:∀ c w',Pn c w'->Q (.panic c) (fr n ds g) w') (h:∀ t w',KM M w w'->(t=true->J1 w')->(t=false->Jx1 w')->dY none ops Q l (fr n ds (up g d (.bool t))) w'):
  dY none ops Q (⟨some d,.call ⟨.value x,xs.toArray,ts⟩,ty,pos,aft,none⟩::l) (fr n ds g) w:=by
 refine cy hx ha hc ?_ ?_ ?_
 ·rintro v w' (⟨e,h1,h2⟩ | ⟨e,h1,h2⟩ | ⟨c,e,_⟩)
  ·cases e;exact h true w' h2 (fun _=>h1) (fun e=>by cases e)
  ·cases e;exact h false w' h2 (fun e=>by cases e) (fun _=>h1)
  ·cases e
 ·rintro c w' (⟨e,_,_⟩ | ⟨e,_,_⟩ | ⟨c,e,hP⟩)
  ·cases e
  ·cases e
  ·cases e;exact hp _ _ hP
 ·rintro w' (⟨e,_,_⟩ | ⟨e,_,_⟩ | ⟨c,e,_⟩) <;> cases e
theorem cyBg {L:List Oper} {kk jj:Nat} {bb:Bool} {k:Nat} {xs:List Operand} {ts:Array TypeId} {args:List Value} {M:Nat->Prop} {J1 Jx1:World->Prop} {Pn:List PanicEntry->World->Prop} (hk:(L[kk]?).bind (·.dst)=some jj) (hj:ev n g (.tmp jj)=.bool bb) (hx:ev n g x=yf k) (ha:args=xs.map (ev n g))
  (hc:vP k args w fun e B=>(e=.returned (.bool true)/\J1 B/\KM M w B)\/(e=.returned (.bool false)/\Jx1 B/\KM M w B)\/∃ c,e=.panicked c/\Pn c B)
  (hp:∀ c w',Pn c w'->Q (.panic c) (fr n ds g) w') (h:∀ t w',KM M w w'->(t=true->J1 w')->(t=false->Jx1 w')->dY none L.toArray Q l (fr n ds (up g d (.bool t))) w'):
  dY none L.toArray Q (⟨some d,.call ⟨.value x,xs.toArray,ts⟩,ty,pos,aft,some (kk,bb)⟩::l) (fr n ds g) w:=by
 refine tI fun K hK=>?_
 rw [tQ rfl hk hj]
 simp only [beq_self_eq_true,if_true]
 obtain ⟨fn,tmps,assign,body,hy,hr⟩:=hc
 refine ⟨fun _ _=>trivial,?_⟩
 have hrun:(execOp (fr n ds g).eval ⟨some d,.call ⟨.value x,xs.toArray,ts⟩,ty,pos,aft,some (kk,bb)⟩).run prog w=.ok (.round k fn tmps assign body) w:=by
  subst ha
  unfold execOp
  rw [bV]
  simp [resolve,hx,Deferred.ofValue,invoke,hy]
 show Oper.uponIn (FR none) 0 prog _ _ K Q ((execOp (fr n ds g).eval ⟨some d,.call ⟨.value x,xs.toArray,ts⟩,ty,pos,aft,some (kk,bb)⟩).run prog w)
 rw [hrun]
 refine ⟨fun h=>(by cases h),hr.mono ?_⟩
 rintro e w' (⟨rfl,h1,h2⟩ | ⟨rfl,h1,h2⟩ | ⟨c,rfl,hP⟩)
 ·show K ((fr n ds g).put (some d) (.bool true)) w'
  rw [fF];exact hK _ _ (h true w' h2 (fun _=>h1) (fun e=>by cases e))
 ·show K ((fr n ds g).put (some d) (.bool false)) w'
  rw [fF];exact hK _ _ (h false w' h2 (fun e=>by cases e) (fun _=>h1))
 ·exact hp c w' hP
theorem qV {R:Ending->World->Prop} (hf:prog.funcs[f]? = some fn) (hb:fn.body=some c) (hn:fn.ntmps=n) (hs:args.length<=n)
  (h:At f c (bodyPostM (FR none) 0 prog fn R) (fr n [] (rK args)) w):Calls prog f args.toArray w R:=by
 refine Pv hf hb ?_
 have e:({ tmps:=args.toArray++Array.replicate (fn.ntmps - args.toArray.size) undef,defers:=[] }:Act)=fr n [] (rK args):=by
  unfold fr
  simp only [Act.mk.injEq,and_true]
  apply Array.ext_getElem?
  intro i
  rw [hn]
  by_cases h1:i<args.length
  ·simp [Array.getElem?_append,h1,rK,List.getElem?_range,aBi h1 hs]
  ·by_cases h2:i<n
   ·have:i - args.length<n - args.length:=by omega
    simp [Array.getElem?_append,h1,h2,this,rK,List.getElem?_range,Array.getElem?_replicate]
   ·have:¬ i - args.length<n - args.length:=by omega
    simp [Array.getElem?_append,h1,h2,this,List.getElem?_range,Array.getElem?_replicate]
 rw [e]
 exact h
theorem wK {R:Ending->World->Prop} (hd:w.heap[D]? = some (.deferred (some []))) (h:∀ w',aS D w w'->∃ v,(results fn (fr n [] g).tmps).run prog w'=.ok v w'/\R (.returned v) w'):
  bodyPostM (FR none) 0 prog fn R .ret (fr n [rS D] g) w:=by
 refine ⟨by simp,.inl ⟨D,_,rfl,run_takeDeferred hd,?_⟩⟩
 exact h _ (lL _ _)
theorem sN {R:Ending->World->Prop} (h:∃ v,(results fn (fr n [] g).tmps).run prog w=.ok v w/\R (.returned v) w):
  bodyPostM (FR none) 0 prog fn R .ret (fr n [] g) w:=h
theorem res1 {t:Tmp} (hr:fn.results=#[.tmp t]):(results fn (fr n [] g).tmps).run prog w=.ok (ev n g (.tmp t)) w:=by
 rw [results_tmp hr]
 exact aD7 (fun v=>Result.ok v w) (congrFun (bV n [] g) (.tmp t))
theorem asA {t:Tmp} (ht:ev n g (.tmp t)=pt b 0):(asAddr ((fr n [] g).tmps.getD t undef)).run prog w=.ok ⟨b,0,none⟩ w:=by
 have h1:(fr n [] g).tmps.getD t undef=pt b 0:=(congrFun (bV n [] g) (.tmp t)).trans ht
 rw [h1];rfl
theorem VA (ha:∀ w,(isAgg ty).run prog w=.ok false w) (hB:Bk b cs td w) (hv:cs[0]? = some v):(loadVar ty ⟨b,0,none⟩).run prog w=.ok v w:=by
 unfold loadVar
 simp [ha,load,Sem.run,hB.cell 0 hv]
theorem vZ (ha:∀ w,(isAgg ty).run prog w=.ok true w) (hs:∀ w,(sizeOf ty).run prog w=.ok cs.length w) (hB:Bk b cs td w):(loadVar ty ⟨b,0,none⟩).run prog w=.ok (.agg cs.toArray) w:=by
 unfold loadVar
 have hl':=run_loadCells_list (P:=prog) w ⟨b,0,none⟩ cs (fun j v hv=>by rw [aDf];exact hB.range j v hv)
 simp [ha,hs,hl']
theorem rW {t:Tmp} (hr:fn.results=#[.cell t ty]) (ht:ev n g (.tmp t)=pt b 0) (hl:(loadVar ty ⟨b,0,none⟩).run prog w=.ok v w):
  (results fn (fr n [] g).tmps).run prog w=.ok v w:=by
 have ha:=asA (w:=w) ht
 unfold results
 simp only [hr]
 simp only [Array.getD_eq_getD_getElem?] at ha
 simp [ha,hl]
theorem Co {t u:Tmp} (hr:fn.results=#[.cell t ty,.tmp u]) (ht:ev n g (.tmp t)=pt b 0) (hl:(loadVar ty ⟨b,0,none⟩).run prog w=.ok v w):
  (results fn (fr n [] g).tmps).run prog w=.ok (.tuple #[v,ev n g (.tmp u)]) w:=by
 have ha:=asA (w:=w) ht
 have hu:(fr n [] g).tmps.getD u undef=ev n g (.tmp u):=congrFun (bV n [] g) (.tmp u)
 unfold results
 simp only [hr]
 simp only [Array.getD_eq_getD_getElem?] at ha hu
 simp [ha,hl,hu]
theorem BG {t u:Tmp} (hr:fn.results=#[.cell t ty,.cell u uy]) (ht:ev n g (.tmp t)=pt b 0) (hl:(loadVar ty ⟨b,0,none⟩).run prog w=.ok v w) (hu:ev n g (.tmp u)=pt c 0) (hl':(loadVar uy ⟨c,0,none⟩).run prog w=.ok v' w):
  (results fn (fr n [] g).tmps).run prog w=.ok (.tuple #[v,v']) w:=by
 have ha:=asA (w:=w) ht
 have hb:=asA (w:=w) hu
 unfold results
 simp only [hr]
 simp only [Array.getD_eq_getD_getElem?] at ha hb
 simp [ha,hl,hb,hl']
end
abbrev aDr:=@KM.ofBelow
abbrev aDs:=@KM.toBelow
abbrev aD0:=@KM.ofOnly
abbrev aD4:=@KM.trans
abbrev aD8:=@KM.refl
abbrev aD9:=@KM.mono
theorem FJ: ∀ (cs:List Value) (k:Nat) (zs:Array Value),k+cs.length=zs.size->(cs.zipIdx k).foldl (fun (a:Array Value) (p:Value × Nat)=>a.setIfInBounds p.2 p.1) zs=(zs.toList.take k++cs).toArray
 | [],k,zs,h=>by
  simp at h
  subst h
  apply aCh.1
  simp
  exact (aAz (by simp)).symm
 | c::r,k,zs,h=>by
  simp only [aB3] at h
  rw [List.zipIdx_cons,List.foldl_cons,FJ r (k+1) _ (by simp;omega)]
  apply aCh.1
  simp only [Array.toList_setIfInBounds]
  have hk:k<zs.toList.length:=by simp;omega
  rw [aAr (by simpa using hk)]
  simp [List.take_set_of_le]
theorem We {sz:Nat} {cs:List Value} {zs:Array Value} (h:cs.length=sz) (hz:zs.size=sz):Instr.fill (fun i=>some (i*sz,sz)) zs [(0,.agg cs.toArray)]=some cs.toArray:=by
 subst h
 unfold Instr.fill
 simp only [Nat.zero_mul,Value.cells,aBr,aDa,hz]
 simp only [ne_eq,not_true_eq_false,Nat.lt_irrefl,decide_false,Bool.or_self,Bool.false_eq_true,if_false,gt_iff_lt]
 unfold Instr.fill
 have:=FJ cs 0 zs (by omega)
 simp at this
 simp [this]
section
variable {r:Option Nat} {n:Nat} {ds:List Deferred} {g:Nat->Value} {w:World} {Q:Exit->Act->World->Prop} {l:List Oper} {ops:Array Oper} {ty:TypeId} {pos:String} {aft:Array Edge} {d:Tmp} {x y:Operand} {t:TypeId}
theorem Cd {e sz bytes:Nat} (hu:prog.underlying t=some (.slice e)) (hi:(prog.info? e).map (fun i=>(i.zero,i.size,i.bytes))=some (some z,sz,bytes)) (hs:Nat.ble sz 16777216=true) (hp:Nat.beq sz 0=false)
  (hx:ev n g x=.agg cs.toArray) (hc:cs.length=sz) (h:∀ w',Bk w.heap.size cs e w'->Below w.heap.size w w'->w'.heap.size=w.heap.size+1->dY r ops Q l (fr n ds (up g d (.slice (some ⟨w.heap.size,0,none⟩) 1 1))) w'):
  dY r ops Q (⟨some d,.buildSlice t 1 #[(0,x)],ty,pos,aft,none⟩::l) (fr n ds g) w:=by
 obtain ⟨i0,hi0,hz0,hz1,hz2⟩:=info_parts hi
 refine Lr (sz:=0) (ps:=[(0,x)]) (ie:=i0) (cells:=cs) hu hi0 hz0 (by rw [hz1,Nat.one_mul];exact hs) (by rw [hz1,Nat.one_mul];exact hp) ?_ h
 rw [hz1]
 simp only [aC3,aDb,hx]
 exact We hc (by simp)
theorem xZ {base e sz bytes:Nat} (hu:prog.underlying t=some (.slice e)) (hi:(prog.info? e).map (fun i=>(i.zero,i.size,i.bytes))=some (some z,sz,bytes)) (hz:z.cells.size=sz) (hp:0<sz)
  (hs:ev n g x=v) (hown:w.ownsRow base e sz v k xs) (hx:ev n g y=.slice (some ⟨b,o,none⟩) m c) (hn:news.length=m*sz) (hr:w.rangeAt b o news) (h1:news.all (·.oneCell')=true) (b1:k+m<=maxLen) (b2:(k+m)*bytes<=140737488355328) (b3:base<=w.heap.size)
  (h:∀ v' w',w'.ownsRow base e sz v' (k+m) (xs++news)->KM (fun i=>v.ownBlock=some i) w w'->(v'.ownBlock=v.ownBlock\/v'.ownBlock=some w.heap.size)->dY r ops Q l (fr n ds (up g d v')) w'):
  dY r ops Q (⟨some d,.call ⟨.builtin .append,#[x,y],#[t,t]⟩,ty,pos,aft,none⟩::l) (fr n ds g) w:=by
 obtain ⟨i0,hi0,hz0,hz1,hz2⟩:=info_parts hi
 refine wpListIn_append_own_at w rfl x y t rfl base e i0 z sz bytes hu hi0 hz0 hz1 hz2 hz hp v k xs (by rw [bV];exact hs) hown ⟨b,o,none⟩ m c news (by rw [bV];exact hx) hn (fun j u hu=>by rw [aDf];exact hr j u hu) (fun u hu=>aB1.1 h1 u hu) b1 b2 b3 fun v' w' h2 h3 _ h5 =>?_
 show dY r ops Q l ((fr n ds g).put (some d) v') w'
 rw [fF]
 exact h v' w' h2 ⟨h3.os,h3.tape,h3.output,h3.size,fun i hi hM=>h3.block i hi (fun e=>hM e.symm)⟩ h5
end
theorem Ja {M:Nat->Prop} (h:A.ownsRow base e sz v n xs) (k:KM M A B) (hb:∀ i,base<=i->¬ M i):B.ownsRow base e sz v n xs:=by
 obtain ⟨h1,h2 | ⟨g,cap,cur,e1,hbg,hg,h3⟩⟩:=h
 ·exact ⟨h1,.inl h2⟩
 ·exact ⟨h1,.inr ⟨g,cap,cur,e1,hbg,(k.block g (Array.getElem?_eq_some_iff.1 hg).1 (hb g hbg)).trans hg,h3⟩⟩
theorem aM {w:World} (h:w.ownsRow base e sz v n xs):∀ i,v.ownBlock=some i->base<=i:=by
 intro i hi
 obtain ⟨_,⟨e1,_⟩ | ⟨g,cap,cur,e1,hbg,_⟩⟩:=h
 ·subst e1;cases hi
 ·subst e1;cases hi;exact hbg
theorem AK {w:World} (h:w.ownsRow base e sz v n xs):v.oneCell'=true:=by
 obtain ⟨_,⟨e1,_⟩ | ⟨g,cap,cur,e1,_⟩⟩:=h <;> subst e1 <;> rfl
theorem bA {w:World} (h:w.ownsRow base e sz v n xs):∀ i,v.ownBlock=some i->i<w.heap.size:=by
 intro i hi
 obtain ⟨_,⟨e1,_⟩ | ⟨g,cap,cur,e1,hbg,hg,_⟩⟩:=h
 ·subst e1;cases hi
 ·subst e1;cases hi;exact (Array.getElem?_eq_some_iff.1 hg).1
theorem AJ {M:Nat->Prop} (h:A.ownsRow base e sz v n xs) (k:KM M A B) (hb:∀ i,v.ownBlock=some i->¬ M i):B.ownsRow base e sz v n xs:=by
 obtain ⟨h1,h2 | ⟨g,cap,cur,e1,hbg,hg,h3⟩⟩:=h
 ·exact ⟨h1,.inl h2⟩
 ·exact ⟨h1,.inr ⟨g,cap,cur,e1,hbg,(k.block g (Array.getElem?_eq_some_iff.1 hg).1 (hb g (by rw [e1];rfl))).trans hg,h3⟩⟩
theorem bE (h:A.ownsRow base e sz v n xs) (k:Below A.heap.size A B):B.ownsRow base e sz v n xs:=
 AJ h (aDr (M:=fun _=>False) k) (fun _ _ h=>h)
theorem eF (h:A.ownsRow base e sz v n xs) (k:aS b A B) (hn:∀ i,v.ownBlock=some i->i≠b):B.ownsRow base e sz v n xs:=
 AJ h (aD0 (M:=fun i=>i=b) k rfl) hn
theorem NN {v v':Value} {s b:Nat} (h:v'.ownBlock=v.ownBlock\/v'.ownBlock=some s) (k:∀ i,v.ownBlock=some i->i≠b) (hb:b<s):∀ i,v'.ownBlock=some i->i≠b:=fun i hi=>by
 rcases h with h | h
 ·exact k i (h ▸ hi)
 ·rw [h] at hi;cases hi;omega
theorem KM.own {M N:Nat->Prop} (h:KM M A B) (k:KM N B C) (hn:∀ i,N i->M i\/A.heap.size<=i):KM M A C:=
 ⟨k.os.trans h.os,k.tape.trans h.tape,k.output.trans h.output,aC7 h.size k.size,fun i hi hM=>(k.block i (aBi hi h.size) (fun e=>by rcases hn i e with q | q;exact hM q;omega)).trans (h.block i hi hM)⟩
theorem Ok {M:Nat->Prop} {v v':Value} {s A:Nat} (h:v'.ownBlock=v.ownBlock\/v'.ownBlock=some s) (k:∀ i,v.ownBlock=some i->M i\/A<=i) (hs:A<=s):∀ i,v'.ownBlock=some i->M i\/A<=i:=fun i hi=>by
 rcases h with h | h
 ·exact k i (h ▸ hi)
 ·rw [h] at hi;cases hi;exact .inr hs
theorem eG (h:w.ownsRow base e sz v n xs):∃ b c,v=.slice b n c/\Rd sz w (.slice b n c) n c xs:=by
 obtain ⟨c,h2⟩:=Rd.own h
 have h3:=h2
 obtain ⟨_,_,_,⟨e,_⟩ | ⟨g,o,e,_⟩⟩:=h3
 ·exact ⟨none,c,by rw [e];simp_all,by simp_all⟩
 ·exact ⟨some ⟨g,o,none⟩,c,e,e ▸ h2⟩
theorem fL (w:World) (base e sz):w.ownsRow base e sz (cP) 0 []:=⟨by simp,.inl ⟨rfl,rfl⟩⟩
theorem Rd.cut (h:Rd sz w (.slice b n c) n c xs):Rd sz w (.slice b n n) n n xs:=by
 obtain ⟨h1,h2,h3,⟨e,e1,e2⟩ | ⟨g,o,e,hg,hr⟩⟩:=h
 ·subst e1 e2;exact ⟨h1,aDl _,h3,.inl ⟨e,rfl,rfl⟩⟩
 ·cases e;exact ⟨h1,aDl _,aC7 h2 h3,.inr ⟨g,o,rfl,hg,hr⟩⟩
theorem oB: (prog.info? 9).map (fun i=>(i.zero,i.size,i.bytes))=some (some (.string ⟨#[]⟩),1,16):=by kernel_rfl
theorem Yo: (prog.info? 3).map (fun i=>(i.zero,i.size,i.bytes))=some (some (zi 0),1,8):=by kernel_rfl
theorem Cc: (prog.info? 2).map (fun i=>(i.zero,i.size,i.bytes))=some (some (zi 0),1,8):=by kernel_rfl
theorem Sr: (prog.info? 70).map (fun i=>(i.zero,i.size,i.bytes))=some (some (.agg #[zi 0,zi 0,zi 0,.bool false,.bool false,cP,cP]),7,80):=by kernel_rfl
theorem TL: (prog.info? 99).map (fun i=>(i.zero,i.size,i.bytes))=some (some (.agg #[zi 0,.string ⟨#[]⟩,zi 0,zi 0,zi 0,cP,zi 0,zi 0,zi 0,.string ⟨#[]⟩,cP,cP,cP,.int .u8 0,.bool false,.bool false,zi 0,zi 0,zi 0]),19,216):=by kernel_rfl
theorem RN: (prog.info? 109).map (fun i=>(i.zero,i.size,i.bytes))=some (some (.agg #[zi 0,.string ⟨#[]⟩,.string ⟨#[]⟩,.string ⟨#[]⟩,.bool false,cP,cP]),7,112):=by kernel_rfl
theorem sT: (prog.info? 112).map (fun i=>(i.zero,i.size,i.bytes))=some (some (.agg #[zi 0,zi 0]),2,16):=by kernel_rfl
theorem Pj: (prog.info? 119).map (fun i=>(i.zero,i.size,i.bytes))=some (some (.agg #[.string ⟨#[]⟩,zi 0]),2,24):=by kernel_rfl
theorem Nz: (prog.info? 124).map (fun i=>(i.zero,i.size,i.bytes))=some (some (.agg #[zi 0,.bool false,zi 0,zi 0,zi 0,zi 0]),6,48):=by kernel_rfl
theorem Cl: (prog.info? 128).map (fun i=>(i.zero,i.size,i.bytes))=some (some (.agg #[.bool false,.bool false,zi 0]),3,16):=by kernel_rfl
theorem Oj: (prog.info? 132).map (fun i=>(i.zero,i.size,i.bytes))=some (some (.agg #[.string ⟨#[]⟩,zi 0]),2,24):=by kernel_rfl
theorem OB: (prog.info? 140).map (fun i=>(i.zero,i.size,i.bytes))=some (some (.agg #[zi 0,zi 0,zi 0,zi 0,zi 0,zi 0,zi 0,zi 0,zi 0,zi 0,zi 0]),11,88):=by kernel_rfl
theorem Hi: (prog.info? 143).map (fun i=>(i.zero,i.size,i.bytes))=some (some (.agg #[.string ⟨#[]⟩,zi 0,zi 0,zi 0,.bool false]),5,48):=by kernel_rfl
theorem mW: (prog.info? 220).map (fun i=>(i.zero,i.size,i.bytes))=some (some (.agg #[.int .u8 0,.string ⟨#[]⟩,.string ⟨#[]⟩,zi 0,.bool false]),5,56):=by kernel_rfl
theorem GO: (prog.info? 245).map (fun i=>(i.zero,i.size,i.bytes))=some (some (.agg #[zi 0,.bool false]),2,16):=by kernel_rfl
theorem xM {α:Type} {c:Bool} {a b:α} (h:c=true):(bif c then a else b)=a:=by rw [h];rfl
theorem uP {α:Type} {c:Bool} {a b:α} (h:c=false):(bif c then a else b)=b:=by rw [h];rfl
def jP (M:Nat->Prop) (f:FuncId) (args:List Value) (w:World) (R:Value->World->Prop):Prop:=Calls prog f args.toArray w fun e w'=>∃ v,e=.returned v/\KM M w w'/\R v w'
section
variable {r:Option Nat} {n:Nat} {ds:List Deferred} {g:Nat->Value} {w:World} {Q:Exit->Act->World->Prop} {l:List Oper} {L:List Oper} {ops:Array Oper} {ty:TypeId} {pos:String} {aft:Array Edge} {d:Tmp} {x:Operand}
theorem QZ {k jj:Nat} {bb:Bool} {xs:List Operand} {R:Value->World->Prop} (hk:(L[k]?).bind (·.dst)=some jj) (hjj:ev n g (.tmp jj)=.bool bb) (hf:EN f) (hx:ev n g x=.func (.func f) #[] caps.toArray)
  (ha:args=xs.map (ev n g)++caps) (hc:cT f args w R) (h:∀ v w',Below w.heap.size w w'->R v w'->dY r L.toArray Q l (fr n ds (up g d v)) w'):
  dY r L.toArray Q (⟨some d,.call ⟨.value x,xs.toArray,ts⟩,ty,pos,aft,some (k,bb)⟩::l) (fr n ds g) w:=
 clg hk hjj hf hx hc (by subst ha;simp) fun _ _ ⟨v,e,hb,hr⟩=>⟨v,e,h v _ hb hr⟩
theorem By {M:Nat->Prop} {xs:List Operand} {R:Value->World->Prop} (hf:EN f) (hx:ev n g x=.func (.func f) #[] caps.toArray)
  (ha:args=xs.map (ev n g)++caps) (hc:jP M f args w R) (h:∀ v w',KM M w w'->R v w'->dY r ops Q l (fr n ds (up g d v)) w'):
  dY r ops Q (⟨some d,.call ⟨.value x,xs.toArray,ts⟩,ty,pos,aft,none⟩::l) (fr n ds g) w:=
 cl hf hx hc (by subst ha;simp) fun _ _ ⟨v,e,hb,hr⟩=>⟨v,e,h v _ hb hr⟩
theorem clMg {M:Nat->Prop} {k jj:Nat} {bb:Bool} {xs:List Operand} {R:Value->World->Prop} (hk:(L[k]?).bind (·.dst)=some jj) (hjj:ev n g (.tmp jj)=.bool bb) (hf:EN f) (hx:ev n g x=.func (.func f) #[] caps.toArray)
  (ha:args=xs.map (ev n g)++caps) (hc:jP M f args w R) (h:∀ v w',KM M w w'->R v w'->dY r L.toArray Q l (fr n ds (up g d v)) w'):
  dY r L.toArray Q (⟨some d,.call ⟨.value x,xs.toArray,ts⟩,ty,pos,aft,some (k,bb)⟩::l) (fr n ds g) w:=
 clg hk hjj hf hx hc (by subst ha;simp) fun _ _ ⟨v,e,hb,hr⟩=>⟨v,e,h v _ hb hr⟩
theorem Lg {g:Nat->Value} {Pn:List PanicEntry->World->Prop} {a1 b1:Int} (h0:ev n g x=zi a1) (h1:ev n g y=zi b1):tV n g ⟨dd,.buildSlice 293 2 #[(0,x),(1,y)],ty,pos,aft,gd⟩ w Pn fun v w'=>Below w.heap.size w w'/\Rd 1 w' v 2 2 [zi a1,zi b1]:=by
 obtain ⟨i0,hi,hz0,hz1,hz2⟩:=info_parts Yo
 refine LG (ps:=[(0,x),(1,y)]) (ie:=i0) (cells:=[zi a1,zi b1]) underlying293 hi hz0 (by rw [hz1];rfl) (by rw [hz1];rfl) (by rw [hz1];simp only [aC3,aDb,h0,h1];rfl) rfl rfl
theorem EW {g:Nat->Value} (hx:ev n g x=.string s) (h:∀ w',Bk w.heap.size [.string s] 9 w'->Below w.heap.size w w'->w'.heap.size=w.heap.size+1->dY r ops Q l (fr n ds (up g d (.slice (some ⟨w.heap.size,0,none⟩) 1 1))) w'):
  dY r ops Q (⟨some d,.buildSlice 95 1 #[(0,x)],ty,pos,aft,none⟩::l) (fr n ds g) w:=by
 obtain ⟨i0,hi,hz0,hz1,hz2⟩:=info_parts oB
 refine Lr (sz:=0) (ps:=[(0,x)]) (ie:=i0) (cells:=[.string s]) underlying95 hi hz0 (by rw [hz1];rfl) (by rw [hz1];rfl) ?_ h
 rw [hz1];simp only [aC3,aDb,hx];rfl
theorem bN {K:Act->World->Prop} {Q:Exit->Act->World->Prop} {id:Nat} {a:Act} {w:World} (h:Q (.exit id) a w):Exit.then K Q (.exit id) a w:=h
theorem dP {Q:Exit->Act->World->Prop} {id:Nat} {a:Act} {w:World} (h:Q .normal a w):Exit.inBlock id Q (.exit id) a w:=by unfold Exit.inBlock;simpa using h
end
section
variable {r:Option Nat} {n:Nat} {ds:List Deferred} {l:List Oper} {T:World->World->Prop} {V:List (Value->World->Prop)} {ch:List Nat} {St:Nat->World->Prop} {Pn:List PanicEntry->World->Prop} {g:Nat->Value} {w:World} {Q:Exit->Act->World->Prop}
def wT (l:List Oper) (o:Oper):Bool:=(List.range l.length).all fun j=>(jY o).contains j||(jY o).any fun k=>match l[k]? with | some q=>(jY q).contains j | none=>false
theorem Zp {id : Nat} {o : Oper} (S : cW l T V ch St) (he : Region.earlier .any (l ++ [o]).toArray = true) (hgd : iQ l = true) (hdep : wT l o = true) (hog : o.guard = none) (h0 : St 0 w)
    (hO : gA (gE n l T V ch St Pn g w) 0 l) (hpan : ∀ c g w, Pn c w → Q (.panic c) (fr n ds g) w)
    (hlast : ∀ g' w', uM l T V ch.length St g w g' w' → ∀ K : Act → World → Prop, (∀ a w, Q .normal a w → K a w) → Ow r o (fr n ds g') w' K Q) : Wp r (Code.region id (l ++ [o]).toArray true) Q (fr n ds g) w := by
  refine qP (Inv := fun listed a w1 => (listed.getD l.length false = false ∧ ∃ g1, a = fr n ds g1 ∧ QI l T V ch St g w (fun i => listed.getD i false) g1 w1) ∨ ((∀ i, i ≤ l.length → listed.getD i false = true) ∧ Q .normal a w1)) he ?_ ?_ ?_
  · have hrep : ∀ i, (Array.replicate (l ++ [o]).toArray.size false).getD i false = false := fun i => by
      simp only [Array.getD_eq_getD_getElem?, Array.getElem?_replicate]
      split <;> rfl
    refine .inl ⟨hrep _, g, rfl, ?_⟩
    rw [show (fun i => (Array.replicate (l ++ [o]).toArray.size false).getD i false) = fun _ => false from funext hrep]
    exact QI.start S g w h0 (S.ofB (aDt _ _).drew) (S.sB _ h0 (aDt _ _).drew)
  · rintro listed a w1 i o1 hs hI ho hu hl
    have hi : i < listed.size := by rw [hs]; exact (Array.getElem?_eq_some_iff.1 ho).1
    have hil : i ≤ l.length := by have : i < (l ++ [o]).toArray.size := by rw [← hs]; exact hi
                                  simp at this; omega
    have huF : listed.getD i false = false := by simpa [hi] using hu
    rcases hI with ⟨hm, g1, rfl, hI⟩ | ⟨hall, _⟩
    · have hdeps : ∀ j ∈ jY o1, listed.getD j false = true := fun j hj => by
        unfold jY at hj
        obtain ⟨e, he2, rfl⟩ := aDc.1 hj
        have := aCn.1 he2
        exact hl e (by simpa using this.1) this.2
      rcases aDd i l.length with hlt | hge
      · have ho' : l[i]? = some o1 := by
          have : (l ++ [o])[i]? = some o1 := by simpa using ho
          rwa [List.getElem?_append_left hlt] at this
        have hwant : ∀ t, Region.wanted o1 (yielded (l ++ [o]).toArray t) = Region.wanted o1 (yielded l.toArray t) := fun t => by
          unfold Region.wanted
          cases hg : o1.guard with
          | none => rfl
          | some kb =>
            obtain ⟨j, b⟩ := kb
            have hj : j < l.length := by
              have := aB1.1 hgd o1 (List.mem_of_getElem? ho')
              rw [hg] at this; simpa using this
            have e : (l ++ [o]).toArray[j]? = l.toArray[j]? := by simp [List.getElem?_append_left hj]
            unfold yielded
            simp only [e]
        rw [hwant]
        have hset : ∀ j, j ≠ i → (listed.setIfInBounds i true).getD j false = listed.getD j false := fun j hj => by simp [Ne.symm hj]
        exact hI.step (r := r) S ho' huF hdeps (by have := oI hO i o1 ho'; rwa [aDa] at this) hpan
          (K := fun a' w' => (((listed.setIfInBounds i true).getD l.length false = false ∧ ∃ g1, a' = fr n ds g1 ∧ QI l T V ch St g w (fun i_1 => (listed.setIfInBounds i true).getD i_1 false) g1 w') ∨ ((∀ j, j ≤ l.length → (listed.setIfInBounds i true).getD j false = true) ∧ Q .normal a' w'))) (fun g' w' hI' => .inl ⟨by rw [hset _ (by omega)]; exact hm, g', rfl, by
            have : (fun j => (listed.setIfInBounds i true).getD j false) = Fl (fun j => listed.getD j false) i := by
              funext j
              unfold Fl
              split
              · rename_i e; subst e; simp [hi]
              · rename_i e; exact hset j e
            rw [this]; exact hI'⟩)
      · have hie : i = l.length := by omega
        subst hie
        have hoe : o1 = o := by
          have : (l ++ [o])[l.length]? = some o1 := by simpa using ho
          simpa using this.symm
        subst hoe
        have hall : ∀ j, j < l.length → listed.getD j false = true := fun j hj => by
          have h1 := aB1.1 hdep j (aCw.2 hj)
          rcases (by simpa only [aCm] using h1 : _ ∨ _) with h1 | h1
          · exact hdeps j (by simpa using h1)
          · obtain ⟨k, hk, h2⟩ := aCc.1 h1
            cases hq : l[k]? with
            | none => rw [hq] at h2; cases h2
            | some q => rw [hq] at h2; exact hI.cl k q hq (hdeps k hk) j (by simpa using h2)
        rw [show Region.wanted o1 (yielded (l ++ [o1]).toArray (fr n ds g1).tmps) = true from by unfold Region.wanted; rw [hog]]
        simp only [if_true]
        refine hlast g1 w1 (hI.ended S hall) _ fun a' w' hq => .inr ⟨fun j hj => ?_, hq⟩
        rcases aDd j l.length with h | h
        · have : j ≠ l.length := by omega
          have := hall j h
          simp only [Array.getD_eq_getD_getElem?] at this ⊢
          rw [Array.getElem?_setIfInBounds_ne (by omega)]; exact this
        · have : j = l.length := by omega
          subst this
          simp [hi]
    · rw [hall i hil] at huF; cases huF
  · rintro listed a w1 hall hI
    rcases hI with ⟨hm, _⟩ | ⟨_, hq⟩
    · rw [hall l.length (by simp)] at hm; cases hm
    · exact hq
end
section
variable {r:Option Nat} {n:Nat} {ds:List Deferred} {g:Nat->Value} {w:World} {Q:Exit->Act->World->Prop} {L:List Oper} {o:Oper} {y:Code} {id:Nat} {V:List (Value->World->Prop)}
theorem eDL (m) (V:List (Value->World->Prop)) (js:List (Nat × Nat)) (ss:List Nat) (hL:L=L.take m++[o]) (h1:iS (qL (L.take m))=true) (h2:Pr V) (he:Region.earlier .any L.toArray=true) (hgd:iQ (L.take m)=true) (hdep:wT (L.take m) o=true) (hog:o.guard=none)
  (hjs:Fs (L.take m) js=true) (hss:ss.all (dB (L.take m))=true)
  (hO:cW (L.take m) BT V [] Ei->gA (gE n (L.take m) BT V [] Ei RQ g w) 0 (L.take m))
  (h:∀ g' w',Below w.heap.size w w'->Fy V g' w' js->lI g g' ss->∀ K:Act->World->Prop,(∀ a w,Q .normal a w->K a w)->Ow r o (fr n ds g') w' K Q):Wp r (Code.region id L.toArray true) Q (fr n ds g) w:=by
 have:=Zp (r:=r) (n:=n) (ds:=ds) (Q:=Q) (g:=g) (w:=w) (id:=id) (Pn:=RQ) (l:=L.take m) (o:=o) (lG h1 h2) (by rw [<- hL];exact he) hgd hdep hog trivial (hO (lG h1 h2)) (fun _ _ _ h=>h.elim) fun g' w' hE=>h g' w' hE.1 (Cs hE hjs) (Cu hE hss)
 rwa [<- hL] at this
theorem YF (m) (V:List (Value->World->Prop)) (js:List (Nat × Nat)) (ss:List Nat) (hL:L=L.take m++[o]) (h1:iS (qL (L.take m))=true) (h2:Pr V) (he:Region.earlier .any L.toArray=true) (hgd:iQ (L.take m)=true) (hdep:wT (L.take m) o=true) (hog:o.guard=none)
  (hjs:Fs (L.take m) js=true) (hss:ss.all (dB (L.take m))=true)
  (hO:cW (L.take m) BT V [] Ei->gA (gE n (L.take m) BT V [] Ei RQ g w) 0 (L.take m))
  (h:∀ g' w',Below w.heap.size w w'->Fy V g' w' js->lI g g' ss->∀ K:Act->World->Prop,(∀ a w,Wp r y Q a w->K a w)->Ow r o (fr n ds g') w' K (Exit.then (Wp r y Q) Q)):Wp r ((Code.region id L.toArray true).seq y) Q (fr n ds g) w:=
 aF (eDL m V js ss hL h1 h2 he hgd hdep hog hjs hss hO h)
variable {K:Act->World->Prop} {t:TypeId} {x y':Operand} {v:Value} {ty:TypeId} {pos:String} {aft:Array Edge}
theorem Dr (hB:Bk b cs td w) (hs:∀ w,(sizeOf t).run prog w=.ok 1 w) (hx:ev n g x=pt b j) (hy:ev n g y'=v) (h1:v.oneCell'=true) (hj:Nat.blt j cs.length=true)
  (h:∀ w',Bk b (cs.set j v) td w'->aS b w w'->w'.heap.size=w.heap.size->K (fr n ds g) w'):Ow r ⟨none,.store t x y',ty,pos,aft,none⟩ (fr n ds g) w K Q:=by
 have hj':j<cs.length:=by rw [aDw] at hj;exact hj
 have hc:w.cell? ⟨b,j,none⟩=some cs[j]:=hB.cell j (List.getElem?_eq_getElem hj')
 have hvc:v.cells=#[v]:=by cases v <;> simp_all [Value.oneCell',Value.cells]
 have hr:(execOp (ev n g) ⟨none,.store t x y',ty,pos,aft,none⟩).run prog w=.ok .skip (w.setCell ⟨b,j,none⟩ v):=by
  unfold execOp
  simp only [hx,hy,Instr.storeAt,Instr.sureAddr,storeVar,aDe,hs,aBw,aDh,hvc]
  simp [storeCells,run_store prog w _ _ _ h1,aCy,hc,hB.frozen j]
 exact qK (by rw [bV];exact hr) (h _ (hB.set j v) (aS.setCell (aS.refl b w) j v) (by simp [World.setCell]))
theorem WT (hB:Bk b cs td w) (hs:∀ w,(sizeOf t).run prog w=.ok vs.length w) (hx:ev n g x=pt b j) (hy:ev n g y'=.agg vs.toArray) (h1:vs.all (·.oneCell')=true) (hj:Nat.ble (j+vs.length) cs.length=true)
  (h:∀ w',Bk b (qZ cs j vs) td w'->aS b w w'->w'.heap.size=w.heap.size->K (fr n ds g) w'):Ow r ⟨none,.store t x y',ty,pos,aft,none⟩ (fr n ds g) w K Q:=by
 obtain ⟨w',hr',hB',hO,hz⟩:=gJ j vs 0 cs w hB h1 (aA1 hj)
 have hr:(execOp (ev n g) ⟨none,.store t x y',ty,pos,aft,none⟩).run prog w=.ok .skip w':=by
  unfold execOp
  simp [hx,hy,Instr.storeAt,Instr.sureAddr,storeVar,hs,Value.cells,hr']
 exact qK (by rw [bV];exact hr) (h _ hB' hO hz)
theorem kI (hB:Bk b cs td w) (hs:∀ w,(sizeOf t).run prog w=.ok vs.length w) (hx:ev n g x=pt b 0) (hy:ev n g y'=.agg vs.toArray) (h1:vs.all (·.oneCell')=true) (hj:vs.length=cs.length)
  (h:∀ w',Bk b vs td w'->aS b w w'->w'.heap.size=w.heap.size->K (fr n ds g) w'):Ow r ⟨none,.store t x y',ty,pos,aft,none⟩ (fr n ds g) w K Q:=
 WT hB hs hx hy h1 (by rw [aDa,hj,Nat.ble_eq];exact aDl _) fun w' hB'=>h w' (by rw [Cz hj] at hB';exact hB')
end
def bv (l:List UInt8):List Value:=l.map fun b=>Value.int .u8 b.toNat
def uv (l:List Nat):List Value:=l.map fun x:Nat=>Value.int .u64 (x:Int)
def Cg:Nat->Nat->List UInt8
 | 0,x=>[UInt8.ofNat x]
 | f+1,x=>if 128<=x then UInt8.ofNat (x % 128+128)::Cg f (x / 128) else [UInt8.ofNat x]
def JD (x:Nat):List UInt8:=Cg 10 x
def aR (l:List Nat):List UInt8:=l.flatMap JD
theorem yJ: ∀ f x,(Cg f x).length<=f+1
 | 0,x=>by simp [Cg]
 | f+1,x=>by
  unfold Cg
  split
  ·have:=yJ f (x / 128);simp;omega
  ·simp
theorem lJ (l:List Nat):(aR l).length<=11*l.length:=by
 induction l with
 | nil=>simp [aR]
 | cons x r ih=>
  have:=yJ 10 x
  simp only [aR,aBu,aBh,aB3,JD] at *
  omega
theorem zH (l):(bv l).length=l.length:=by simp [bv]
theorem PZ (l r):bv (l++r)=bv l++bv r:=by simp [bv]
theorem WF (l):∀ u∈bv l,u.oneCell'=true:=by
 intro u hu
 simp only [bv,aDc] at hu
 obtain ⟨b,_,rfl⟩:=hu
 rfl
theorem GM: (prog.info? 5).map (fun i=>(i.zero,i.size,i.bytes))=some (some (.int .u8 0),1,1):=by kernel_rfl
theorem zS {P:Program} {Q:Exit->Act->World->Prop} (hgd:o.guard=none) (s x) (t)
  (ho:o.op=.call { callee:=.builtin .append,args:=#[s,x],argTypes:=#[t,t] })
  (base) (e) (i:TypeInfo) (z) (size bytes:Nat) (ht:P.underlying t=some (.slice e)) (hi:P.info? e=some i) (hz:i.zero=some z)
  (hsize:i.size=size) (hby:i.bytes=bytes) (hzs:z.cells.size=size) (hsz:0<size)
  (v) (n) (xs) (hs:a.eval s=v) (hown:w.ownsRow base e size v n xs)
  (y) (m c) (news) (hx:a.eval x=y) (hrd:Rd size w y m c news) (h1:∀ u∈news,u.oneCell'=true)
  (h63:n+m<=maxLen) (hbytes:(n+m)*bytes<=140737488355328) (hbase:base<=w.heap.size)
  (h:∀ v' w',w'.ownsRow base e size v' (n+m) (xs++news)->w.grownBy w' v.ownBlock->(v'=cP->v=cP/\m=0)->wpList P ops Q rest (a.put o.dst v') w'):wpList P ops Q (o::rest) a w:=by
 obtain ⟨e1,e2,e3,⟨rfl,rfl,rfl⟩ | ⟨g,off,rfl,hg,hr⟩⟩:=hrd
 ·have:news=[]:=aAt (by simpa using e1)
  subst this
  refine wpList_append_own_none hgd s x t ho base e i size ht hi v n xs hs hown hx (h v w (by simpa using hown) (World.grownBy.refl _ _) fun e=>⟨e,rfl⟩)
 ·exact wpList_append_own w hgd s x t ho base e i z size bytes ht hi hz hsize hby hzs hsz v n xs hs hown ⟨g,off,none⟩ m c news hx e1 (fun j u hu=>by rw [aDf];exact hr j u hu) h1 h63 hbytes hbase
   fun v' w' h2 h3 h4=>h v' w' h2 h3 h4.1
theorem AM (h:w.grownBy w' none):Below w.heap.size w w':=(aDt _ _).grown h (aDl _) (fun k e=>by cases e)
def kR (w:World) (R:List UInt8) (e:Ending) (w':World):Prop:=
 ∃ b n,e=.returned (.slice b n n)/\Rd 1 w' (.slice b n n) n n (bv R)/\(∀ k,(Value.slice b n n).ownBlock=some k->w.heap.size<=k)/\Below w.heap.size w w'
def zO (H:Nat) (w:World) (B R:List UInt8) (v:Value) (wr:World):Prop:=
 wr.ownsRow H 5 1 v (B.length+R.length) (bv (B++R))/\v≠cP/\Below H w wr
theorem zO.step (h:zO H w B R v wr) (hH:H<=wr.heap.size) (y:UInt8)
  (ho:w'.ownsRow H 5 1 v' (B.length+R.length+1) (bv (B++R)++[.int .u8 y.toNat])) (hg:(wr.alloc o).grownBy w' v.ownBlock):zO H w B (R++[y]) v' w':=by
 obtain ⟨h1,h2,h3⟩:=h
 refine ⟨?_,?_,(h3.alloc hH o).grown hg (by simp;omega) (fun k e=>(h1.lt k e).1)⟩
 ·have e1:bv (B++(R++[y]))=bv (B++R)++[.int .u8 y.toNat]:=by rw [<- aBs,PZ];rfl
  rw [e1,aBh,aA3,<- Nat.add_assoc];exact ho
 ·rintro rfl
  rcases ho.2 with ⟨_,e⟩ | ⟨g,cap,cur,e,_⟩
  ·omega
  ·cases e
theorem zO.packed (h:zO w.heap.size w B R v wr):∀ g cap,v=.slice (some ⟨g,0,none⟩) (B.length+R.length) cap->kR w (B++R) (.returned (.slice (some ⟨g,0,none⟩) (B.length+R.length) (B.length+R.length))) wr:=by
 rintro g cap rfl
 obtain ⟨c,h1,h2,h3,⟨e,_⟩ | ⟨g',o,e,hg,hr⟩⟩:=Rd.own h.1
 ·cases e
 cases e
 exact ⟨_,_,rfl,⟨by rw [zH,aBh];omega,aDl _,by omega,.inr ⟨_,_,rfl,hg,hr⟩⟩,fun k e=>by cases e;exact (h.1.lt _ rfl).1,h.2.2⟩
theorem sU {Q:Exit->Act->World->Prop} (hgd:o.guard=none) (s x)
  (ho:o.op=.call { callee:=.builtin .append,args:=#[s,x],argTypes:=#[148,148] }) (H) (w wr) (B R) (v) (hs:a.eval s=v) (how:zO H w B R v wr) (hH:H<=wr.heap.size)
  (y:Int) (b:UInt8) (hy:y=(b.toNat:Int)) (hx:a.eval x=.slice (some ⟨wr.heap.size,0,none⟩) 1 1) (hb:B.length+R.length+1<=140737488355328)
  (h:∀ v' w',zO H w B (R++[b]) v' w'->wpList prog ops Q rest (a.put o.dst v') w'):wpList prog ops Q (o::rest) a (wr.alloc (.cells #[.int .u8 y] 5)):=by
 obtain ⟨i0,hi,hz0,hz1,hz2⟩:=info_parts GM
 subst hy
 refine wpList_append_own _ hgd s x 148 ho H 5 i0 (.int .u8 0) 1 1 underlying148 hi hz0 hz1 hz2 rfl (by decide) v _ _ hs (how.1.alloc _) ⟨wr.heap.size,0,none⟩ 1 1 [.int .u8 (b.toNat:Int)] hx rfl ?_ (by simp [Value.oneCell']) (by unfold maxLen;omega) (by omega) (by simp;omega)
  fun v' w' ho hg _=>h v' w' (how.step hH b ho hg)
 intro j u hu
 match j with
 | 0=>
  cases hu
  exact kE _ _ _ _ rfl
 | j+1=>simp at hu
theorem aAe (x:Nat):bits .or .u8 ((x:Int) % 256) 128=((UInt8.ofNat (x % 128+128)).toNat:Int):=by
 have:∀ y:Fin 256,bits .or .u8 (y.val:Int) 128=((y.val % 128+128:Nat):Int):=by decide +kernel
 have h:=this ⟨x % 256,by omega⟩
 simp only at h
 rw [show ((x:Int) % 256)=((x % 256:Nat):Int) by omega,h]
 have:(UInt8.ofNat (x % 128+128)).toNat=x % 128+128:=by simp;omega
 rw [this];omega
theorem WS {x:Nat} (h:¬ 128<=x):(x:Int)=((UInt8.ofNat x).toNat:Int):=by
 have:(UInt8.ofNat x).toNat=x:=by simp;omega
 rw [this]
theorem SJ (h:128<=x) (hx:x<128 ^ (f+1)):∃ f',f=f'+1/\Cg f x=UInt8.ofNat (x % 128+128)::Cg f' (x / 128)/\x / 128<128 ^ (f'+1):=by
 cases f with
 | zero=>simp at hx;omega
 | succ f'=>
  refine ⟨f',rfl,by rw [Cg,aEc h],?_⟩
  rw [Nat.div_lt_iff_lt_mul (by omega)]
  rwa [aDg] at hx
theorem Qs (h:¬ 128<=x):Cg f x=[UInt8.ofNat x]:=by
 cases f with
 | zero=>rfl
 | succ f'=>rw [Cg,aEd h]
theorem Nd (l:List Nat) (x):aR (l++[x])=aR l++JD x:=by simp [aR]
set_option maxRecDepth 100000 in
set_option maxHeartbeats 1600000 in
theorem Vm (v:Option Addr) (lv:Option Addr) (c m mc:Nat) (B:List UInt8) (L:List Nat) (w:World) (hv:Rd 1 w (.slice v B.length c) B.length c (bv B)) (hl:Rd 1 w (.slice lv m mc) m mc (uv L))
  (hL:∀ x∈L,x<18446744073709551616) (hsz:B.length+11*m<=70368744177664):Calls Tryz.prog 77 #[.slice v B.length c,.slice lv m mc] w (kR w (B++aR L)):=by
 have hm:L.length=m:=by have:=hl.1;simpa [uv] using this
 obtain ⟨i0,hi,hz0,hz1,hz2⟩:=info_parts GM
 have HV:=aEb hv
 have HL:=aEb hl
 clear hv hl
 go_enter Tryz.func77, Tryz.ntmps77
 go_wp2_with (first
  | (refine wpList_make_own _ rfl _ _ 148 rfl w.heap.size 5 i0 (.int .u8 0) 1 Tryz.underlying148 hi hz0 hz1 .i64 .i64 _ (B.length+m) rfl rfl (by simp) (by rw [hz2];omega) (by unfold maxLen;omega) (aDl _) ?_;intro w1 hown1 hgrow1)
  | (at_builtin;refine zS rfl (.tmp 13) (.tmp 14) 148 rfl w.heap.size 5 i0 (.int .u8 0) 1 1 Tryz.underlying148 hi hz0 hz1 hz2 rfl (by decide) _ 0 [] rfl hown1 _ B.length c (bv B) rfl (HV.out.below (AM hgrow1)) (WF B) (by unfold maxLen;omega) (by omega) hgrow1.size ?_;intro v2 w2 hown2 hgrow2 hnil2))
 have h0:zO w.heap.size w B [] v2 w2:=by
  refine ⟨?_,fun e=>?_,?_⟩
  ·simpa [aR] using hown2
  ·cases (hnil2 e).1
  ·exact (AM hgrow1).grown hgrow2 hgrow1.size (fun k e=>by cases e;exact aDl _)
 clear hown1 hgrow1 hown2 hgrow2 hnil2
 go_loopw [5, 7, 18] (fun vo _ i wr => ∃ k : Nat, i = .int .i64 k /\ k <= m /\ zO w.heap.size w B (aR (L.take k)) vo wr) (fun _ _ i _ => m - (intOf i).toNat)
 case atStart=>exact ⟨0,rfl,aDm _,h0⟩
 case round=>
  obtain ⟨k,rfl,hk,how⟩:=hrel
  clear h0
  by_cases hlt:k<m
  ·obtain ⟨_,_,_,⟨_,e1,_⟩ | ⟨g,o,e1,hg,hr⟩⟩:=HL.out
   ·omega
   cases e1
   have hkL:k<L.length:=by omega
   have hcell:wr.cell? ⟨g,o+k,none⟩=some (.int .u64 (L[k]:Int)):=(how.2.2.cell (p:=⟨g,o+k,none⟩) hg).trans (hr k _ (by simp [uv,hkL]))
   go_wp2
   have hx64:=hL L[k] (aBz hkL)
   have HE:=aEb (Nd (L.take k) L[k])
   have HT:=aEb (aAr hkL)
   obtain ⟨wo,rfl⟩:∃ wo:World,wo=wr:=⟨_,rfl⟩
   go_loopw [5, 7] (fun vo x w2 => ∃ (y f : Nat) (acc : List UInt8), x = .int .u64 (y : Int) /\ y < 18446744073709551616 /\ y < 128 ^ (f + 1) /\ acc ++ Cg f y = JD L[k] /\ zO w.heap.size w B (aR (L.take k) ++ acc) vo w2) (fun _ x _ => (intOf x).toNat)
   case atStart=>exact ⟨_,10,[],rfl,hx64,by omega,rfl,by simpa using how⟩
   case round=>
    obtain ⟨y,f,acc,rfl,hy,hyf,hacc,how2⟩:=hrel
    have hlenA:=lJ (L.take k)
    have hlenB:=yJ 10 L[k]
    have hlenC:=aD7 List.length hacc
    simp only [aBh,aB7,JD] at hlenA hlenB hlenC
    have HH:=how2.2.2.size
    have HO:=aEb how2
    have HA:=aEb hacc
    clear how2 hacc
    by_cases h128:128<=y
    ·have hbd:B.length+(aR (L.take k)++acc).length+1<=140737488355328:=by simp;omega
     obtain ⟨f',hf',he,hy'⟩:=SJ h128 hyf
     rw [he] at hlenC
     have HE2:=aEb he
     have HF:=aEb hf'
     clear he hf'
     go_wp2_with (at_builtin; refine sU rfl (.tmp 26) (.tmp 30) rfl _ _ _ _ _ _ rfl HO.out HH _ _ (aAe y) rfl hbd ?_; intro v3 w3 how3)
     go_roundw
     case rel => exact ⟨y / 128, f', acc ++ [UInt8.ofNat (y % 128 + 128)], by go_num, by omega, hy', by rw [<- HA.out, HE2.out]; simp, by rw [<- aBs]; exact how3⟩
     case measure=>simp [intOf];omega
    ·have hbd:B.length+(aR (L.take k)++acc).length+1<=140737488355328:=by simp;omega
     have HE2:=aEb (Qs (f:=f) h128)
     go_wp2_with (at_builtin; refine sU rfl (.tmp 32) (.tmp 35) rfl _ _ _ _ _ _ rfl HO.out HH _ _ (WS h128) rfl hbd ?_; intro v3 w3 how3)
     go_roundw
     case rel => exact ⟨k + 1, by go_num, by omega, by rw [HT.out, HE.out, <- HA.out, HE2.out, <- aBs]; exact how3⟩
     case measure=>simp [intOf];omega
  ·obtain rfl:k=m:=by omega
   rw [aAz (by omega)] at how
   have hlenA:=lJ L
   have hend:=zO.packed how
   obtain ⟨⟨_,⟨e1,_⟩ | ⟨g2,cap,cur,rfl,hb2,hg2,h2,h3,_⟩⟩,hnn,hbl⟩:=how
   ·exact absurd e1 hnn
   have HP:=aEb hend
   clear hend hnn hg2
   unfold maxLen at h3
   go_wp2
   go_ret
   exact HP.out _ _ rfl
theorem mL {L:List Nat} (hv:Rd 1 w (.slice v n c) n c (bv B)) (hl:Rd 1 w (.slice lv m mc) m mc (uv L))
  (hL:∀ x∈L,x<18446744073709551616) (hsz:n+11*m<=70368744177664):Calls prog 77 #[.slice v n c,.slice lv m mc] w (kR w (B++aR L)):=by
 obtain rfl:B.length=n:=by have:=hv.1;rw [zH] at this;omega
 exact Vm v lv c m mc B L w hv hl hL hsz
def cB (n:Int):Nat:=if 0<=n then (2*n).toNat else (-2*n - 1).toNat
theorem Rh {n:Int} (h0:-9223372036854775808<=n) (h1:n<=9223372036854775807):cB n<18446744073709551616:=by
 unfold cB;split <;> omega
def iv (l:List Int):List Value:=l.map fun n=>zi n
def sv (l:List ByteArray):List Value:=l.map Value.string
def fv (l:List Bool):List Value:=l.map Value.bool
theorem notN {x:Nat} (h:x<18446744073709551616):bits .xor .u64 (x:Int) 18446744073709551615=18446744073709551615 - (x:Int):=by
 have h1:=bits_xor_u64_nat x 18446744073709551615 h (by omega)
 have h2:x ^^^ 18446744073709551615=18446744073709551615 - x:=by
  have:=aD7 BitVec.toNat (BitVec.xor_allOnes (x:=BitVec.ofNat 64 x))
  rw [BitVec.toNat_xor,BitVec.toNat_allOnes,BitVec.toNat_not,aBo,aCg (by simpa using h)] at this
  simpa using this
 rw [show (18446744073709551615:Int)=((18446744073709551615:Nat):Int) from rfl,h1,h2]
 omega
set_option maxHeartbeats 400000 in
theorem Pq (n:Int) (w:World) (h0:-9223372036854775808<=n) (h1:n<=9223372036854775807):Calls prog 194 #[zi n] w fun e w'=>e=.returned (.int .u64 (cB n:Int))/\w=w':=by
 have w0:IntKind.u64.wrap 0=0:=by rw [aCa];omega
 have w1:IntKind.u64.wrap (-1)=18446744073709551615:=by rw [aCa];omega
 by_cases h:0<=n
 ·have e1:n / 9223372036854775808=0:=by omega
  have e2:IntKind.u64.wrap n=n:=IntWalk.u64_in n ⟨h,by omega⟩
  have e3:bits .xor .u64 (n*2) 0=n*2:=by
   obtain ⟨m,rfl⟩:=Int.eq_ofNat_of_zero_le h
   have:=bits_xor_u64_nat (m*2) 0 (by omega) (by omega)
   simp only [Nat.xor_zero] at this
   rw [show ((m:Int)*2)=((m*2:Nat):Int) by omega]
   exact this
  have e4:IntKind.u64.wrap (n*2)=n*2:=IntWalk.u64_in _ ⟨by omega,by omega⟩
  go_enter func194, ntmps194
  go_wp2
  go_ret
  exact ⟨by unfold cB;rw [aEc h];exact aD7 (fun x=>Ending.returned (.int .u64 x)) (by omega),rfl⟩
 ·have e1:n / 9223372036854775808=-1:=by omega
  have e2:IntKind.u64.wrap n=n+18446744073709551616:=by rw [aCa];omega
  have e3:IntKind.u64.wrap ((n+18446744073709551616)*2)=2*n+18446744073709551616:=by rw [aCa];omega
  have e4:bits .xor .u64 (2*n+18446744073709551616) 18446744073709551615=-2*n - 1:=by
   have h3:=notN (x:=(2*n+18446744073709551616).toNat) (by omega)
   rw [show ((2*n+18446744073709551616).toNat:Int)=2*n+18446744073709551616 by omega] at h3
   rw [h3];omega
  go_enter func194, ntmps194
  go_wp2
  go_ret
  exact ⟨by unfold cB;rw [aEd (by omega)];exact aD7 (fun x=>Ending.returned (.int .u64 x)) (by omega),rfl⟩
theorem xI (l r:List Nat):aR (l++r)=aR l++aR r:=by simp [aR]
theorem Rd.form (h:Rd sz w v n c xs):∃ b,v=.slice b n c:=by
 obtain ⟨_,_,_,⟨e,e1,e2⟩ | ⟨g,o,e,_⟩⟩:=h
 ·subst e1 e2;exact ⟨_,e⟩
 ·exact ⟨_,e⟩
def Lj (w:World) (R:List UInt8) (v:Value) (wr:World):Prop:=
 ∃ b n,v=.slice b n n/\Rd 1 wr (.slice b n n) n n (bv R)/\(∀ k,(Value.slice b n n).ownBlock=some k->w.heap.size<=k)/\Below w.heap.size w wr
theorem kR.upto {e:Ending} (h:kR w R e w'):∃ v,e=.returned v/\Lj w R v w':=by
 obtain ⟨b,n,h1,h2,h3,h4⟩:=h
 exact ⟨_,h1,b,n,rfl,h2,h3,h4⟩
theorem Lj.packed (h:Lj w R v w'):kR w R (.returned v) w':=by
 obtain ⟨b,n,rfl,h2,h3,h4⟩:=h
 exact ⟨_,_,rfl,h2,h3,h4⟩
theorem kR.later {e:Ending} (h:kR w1 R e w') (hb:Below w.heap.size w w1):kR w R e w':=by
 obtain ⟨b,n,h1,h2,h3,h4⟩:=h
 exact ⟨b,n,h1,h2,fun k e=>aC7 hb.size (h3 k e),aDu hb h4⟩
theorem QH (w:World) (y:Nat) (t):Rd 1 (w.alloc (.cells #[.int .u64 (y:Int)] t)) (.slice (some ⟨w.heap.size,0,none⟩) 1 1) 1 1 (uv [y]):=ID w _ t 1
theorem xR (h:Rd 1 w v n c (bv R)):n=R.length:=by have:=h.1;rw [zH] at this;omega
set_option maxRecDepth 100000 in
set_option maxHeartbeats 800000 in
theorem Um {v lv:Option Addr} {n c m mc:Nat} {B:List UInt8} {L:List Int} {w:World} (hv:Rd 1 w (.slice v n c) n c (bv B)) (hl:Rd 1 w (.slice lv m mc) m mc (iv L))
  (hL:∀ x∈L,-9223372036854775808<=x/\x<=9223372036854775807) (hsz:n+11*m+11<=70368744177664):Calls prog 143 #[.slice v n c,.slice lv m mc] w (kR w (B++aR (L.map cB))):=by
 have hm:L.length=m:=by have:=hl.1;simpa [iv] using this
 have hBn:=xR hv
 have HL:=aEb hl
 have HV:=aEb hv
 have HBN:=aEb hBn
 clear hl hv hBn
 go_enter func143, ntmps143
 go_wp2_with fail
 with_reducible refine (mL HV.out (aEe _ _) (L:=[]) (by simp) (by omega)).mono ?_
 rintro e w1 hp1
 obtain ⟨v1,rfl,hu1⟩:=hp1.upto
 clear hp1
 have HU:=aEb hu1
 clear hu1
 go_wp2
 go_loopw [0, 6, 11] (fun vo _ i wr => ∃ k : Nat, i = .int .i64 k /\ k <= m /\ Lj w (B ++ aR ((L.take k).map cB)) vo wr) (fun _ _ i _ => m - (intOf i).toNat)
 case atStart=>exact ⟨0,rfl,aDm _,by simpa [aR] using HU.out⟩
 case round=>
  obtain ⟨k,rfl,hk,hu⟩:=hrel
  clear HU
  by_cases hlt:k<m
  ·obtain ⟨_,_,_,⟨_,e1,_⟩ | ⟨g,o,e1,hg,hr⟩⟩:=HL.out
   ·omega
   cases e1
   have hkL:k<L.length:=by omega
   obtain ⟨hx0,hx1⟩:=hL L[k] (aBz hkL)
   obtain ⟨b,n1,rfl,hrd,hfresh,hbl⟩:=hu
   have hcell:wr.cell? ⟨g,o+k,none⟩=some (zi L[k]):=(hbl.cell (p:=⟨g,o+k,none⟩) hg).trans (hr k _ (by simp [iv,hkL]))
   have hn1:n1+11<=70368744177664:=by
    have hlen:=lJ ((L.take k).map cB)
    have h2:=xR hrd
    simp only [aCj,aB7,aBh] at hlen h2
    have:=HBN.out
    omega
   have HT:=aEb (aAr hkL)
   have HB:=aEb (And.intro hrd hbl)
   clear hrd hfresh hbl
   go_wp2_with fail
   refine (Pq _ _ hx0 hx1).mono ?_
   rintro e w2 ⟨rfl,rfl⟩
   have hbd:=Rh hx0 hx1
   have HY:=aEb (rfl:cB L[k]=cB L[k])
   generalize hy:cB L[k]=y at *
   replace HY:Hid (cB L[k]=y):=aEb hy
   clear hy
   go_wp2_with fail
   with_reducible refine (mL (HB.out.1.alloc _) (QH _ _ _) (L:=[y]) (by simpa using hbd) (by omega)).mono ?_
   rintro e w2 hp
   have hp2:=hp.later (HB.out.2.alloc HB.out.2.size _)
   obtain ⟨v2,rfl,hu2⟩:=hp2.upto
   clear hp hp2
   have HU:=aEb hu2
   clear hu2
   go_wp2
   go_roundw
   case rel => exact ⟨k + 1, by go_num, by omega, by rw [HT.out, aCo, xI, List.map_singleton, HY.out, <- aBs]; exact HU.out⟩
   case measure=>simp [intOf];omega
  ·obtain rfl:k=m:=by omega
   rw [aAz (by omega)] at hu
   have HU:=aEb hu
   clear hu
   go_wp2
   go_ret
   exact HU.out.packed
def Hl (s:ByteArray):List UInt8:=JD s.size++s.data.toList
def cD (l:List ByteArray):List UInt8:=l.flatMap Hl
def eH (b:Bool):Nat:=if b=true then 1 else 0
theorem zZ (l r:List ByteArray):cD (l++r)=cD l++cD r:=by simp [cD]
theorem Ai (s):cD [s]=Hl s:=by simp [cD]
theorem Jn (l:List ByteArray) (k):(cD (l.take k)).length<=(cD l).length:=by
 conv=>rhs;rw [<- aA2 k l,zZ]
 simp
theorem rd_0 (w:World) (t):Rd 1 (w.alloc (.cells #[.int .u64 0] t)) (.slice (some ⟨w.heap.size,0,none⟩) 1 1) 1 1 (uv [0]):=ID w _ t 1
theorem rd_1 (w:World) (t):Rd 1 (w.alloc (.cells #[.int .u64 1] t)) (.slice (some ⟨w.heap.size,0,none⟩) 1 1) 1 1 (uv [1]):=ID w _ t 1
theorem IH (w) (s) (n) (h:1=n):Src prog n 9 (.string s) s.size (bv s.data.toList) w:=by
 subst h
 exact Src.ofString w underlying9 s
set_option maxRecDepth 100000 in
set_option maxHeartbeats 800000 in
theorem DG {v lv:Option Addr} {n c m mc:Nat} {B:List UInt8} {L:List ByteArray} {w:World} (hv:Rd 1 w (.slice v n c) n c (bv B)) (hl:Rd 1 w (.slice lv m mc) m mc (sv L))
  (hsz:n+(cD L).length+22<=70368744177664):Calls prog 142 #[.slice v n c,.slice lv m mc] w (kR w (B++cD L)):=by
 have hm:L.length=m:=by have:=hl.1;simpa [sv] using this
 have hm63:m<=9223372036854775807:=by have:=hl.2.1;have h2:=hl.2.2.1;unfold maxLen at h2;omega
 have HBN:=aEb (xR hv)
 have HL:=aEb hl
 have HV:=aEb hv
 have HM:=aEb hm
 clear hl hv hm
 obtain ⟨i0,hi,hz0,hz1,hz2⟩:=info_parts GM
 have HI:=aEb (And.intro hi (And.intro hz0 (And.intro hz1 hz2)))
 clear hi hz0 hz1 hz2
 go_enter func142, ntmps142
 go_wp2_with fail
 with_reducible refine (mL HV.out (aEe _ _) (L:=[]) (by simp) (by omega)).mono ?_
 rintro e w1 hp1
 obtain ⟨v1,rfl,hu1⟩:=hp1.upto
 clear hp1
 have HU:=aEb hu1
 clear hu1
 go_wp2
 go_loopw [0, 6, 11] (fun vo _ i wr => ∃ k : Nat, i = .int .i64 k /\ k <= m /\ Lj w (B ++ cD (L.take k)) vo wr) (fun _ _ i _ => m - (intOf i).toNat)
 case atStart=>exact ⟨0,rfl,aDm _,by simpa [aR,cD] using HU.out⟩
 case round=>
  obtain ⟨k,rfl,hk,hu⟩:=hrel
  clear HU
  by_cases hlt:k<m
  ·obtain ⟨_,_,_,⟨_,e1,_⟩ | ⟨g,o,e1,hg,hr⟩⟩:=HL.out
   ·omega
   cases e1
   have hkL:k<L.length:=by have:=HM.out;omega
   obtain ⟨b,n1,rfl,hrd,hfresh,hbl⟩:=hu
   have HT:=aEb (aAr hkL)
   have hn1:n1+L[k].size+22<=70368744177664:=by
    have hlen:=Jn L (k+1)
    have h2:=xR hrd
    rw [HT.out,zZ,Ai] at hlen
    simp only [aBh,Hl,Array.length_toList,ByteArray.size_data] at hlen h2
    have:=HBN.out
    omega
   have hcell:wr.cell? ⟨g,o+k,none⟩=some (.string L[k]):=(hbl.cell (p:=⟨g,o+k,none⟩) hg).trans (hr k _ (by simp [sv,hkL]))
   have HB:=aEb (And.intro hrd hbl)
   clear hrd hfresh hbl
   generalize L[k]=s at *
   have hs64:IntKind.u64.wrap (s.size:Int)=(s.size:Int):=IntWalk.u64_in _ ⟨by omega,by omega⟩
   go_wp2_with fail
   with_reducible refine (mL (HB.out.1.alloc _) (QH _ _ _) (L:=[s.size]) (by simp;omega) (by omega)).mono ?_
   rintro e w2 hp
   clear hs64
   have hp2:=hp.later (HB.out.2.alloc HB.out.2.size _)
   obtain ⟨v2,rfl,b2,n2,rfl,hrd2,hfresh2,hbl2⟩:=hp2.upto
   clear hp hp2
   have hn2:n2+s.size+11<=70368744177664:=by
    have h2:=xR hrd2
    have h3:=xR HB.out.1
    have h4:=lJ [s.size]
    simp only [aBh,aA3] at h2 h3 h4
    omega
   have HR:=aEb (And.intro hrd2 hbl2)
   clear hrd2 hbl2 hfresh2
   go_wp2_with (at_builtin; refine tZ rfl (.tmp 20) (.tmp 21) 148 9 rfl 5 i0 (.int .u8 0) underlying148 HI.out.1 HI.out.2.1 (by rw [HI.out.2.2.1]; rfl) _ n2 _ rfl (by rw [HI.out.2.2.1]; exact HR.out.1) _ s.size (bv s.data.toList) rfl (IH _ s _ HI.out.2.2.1.symm) (by unfold maxLen; omega) (by rw [HI.out.2.2.2]; omega) ?_; intro v3 c3 w3 hrd3 hbl3 _)
   rw [HI.out.2.2.1,<- PZ] at hrd3
   obtain ⟨b3,rfl⟩:=hrd3.form
   with_reducible refine (mL hrd3 (aEe _ _) (L:=[]) (by simp) (by omega)).mono ?_
   rintro e w4 hp
   have hp3:=hp.later (aDu HR.out.2 hbl3)
   obtain ⟨v4,rfl,hu4⟩:=hp3.upto
   have HU:=aEb hu4
   clear hp hp3 hrd3 hbl3 hu4
   go_wp2
   go_roundw
   case rel => exact ⟨k + 1, by go_num, by omega, by rw [HT.out, zZ, Ai]; simpa [aR, Hl] using HU.out⟩
   case measure=>simp [intOf];omega
  ·obtain rfl:k=m:=by omega
   rw [aAz (by have:=HM.out;omega)] at hu
   have HU:=aEb hu
   clear hu
   go_wp2
   go_ret
   exact HU.out.packed
set_option maxRecDepth 100000 in
set_option maxHeartbeats 800000 in
theorem GE {v lv:Option Addr} {n c m mc:Nat} {B:List UInt8} {L:List Bool} {w:World} (hv:Rd 1 w (.slice v n c) n c (bv B)) (hl:Rd 1 w (.slice lv m mc) m mc (fv L))
  (hsz:n+11*m+11<=70368744177664):Calls prog 141 #[.slice v n c,.slice lv m mc] w (kR w (B++aR (L.map eH))):=by
 have hm:L.length=m:=by have:=hl.1;simpa [fv] using this
 have HBN:=aEb (xR hv)
 have HL:=aEb hl
 have HV:=aEb hv
 have HM:=aEb hm
 clear hl hv hm
 go_enter func141, ntmps141
 go_wp2_with fail
 with_reducible refine (mL HV.out (aEe _ _) (L:=[]) (by simp) (by omega)).mono ?_
 rintro e w1 hp1
 obtain ⟨v1,rfl,hu1⟩:=hp1.upto
 clear hp1
 have HU:=aEb hu1
 clear hu1
 go_wp2
 go_loopw [0, 6, 7, 12] (fun vo _ _ i wr => ∃ k : Nat, i = .int .i64 k /\ k <= m /\ Lj w (B ++ aR ((L.take k).map eH)) vo wr) (fun _ _ _ i _ => m - (intOf i).toNat)
 case atStart=>exact ⟨0,rfl,aDm _,by simpa [aR] using HU.out⟩
 case round=>
  obtain ⟨k,rfl,hk,hu⟩:=hrel
  clear HU
  by_cases hlt:k<m
  ·obtain ⟨_,_,_,⟨_,e1,_⟩ | ⟨g,o,e1,hg,hr⟩⟩:=HL.out
   ·omega
   cases e1
   have hkL:k<L.length:=by have:=HM.out;omega
   obtain ⟨b,n1,rfl,hrd,hfresh,hbl⟩:=hu
   have hcell:wr.cell? ⟨g,o+k,none⟩=some (.bool L[k]):=(hbl.cell (p:=⟨g,o+k,none⟩) hg).trans (hr k _ (by simp [fv,hkL]))
   have hn1:n1+11<=70368744177664:=by
    have hlen:=lJ ((L.take k).map eH)
    have h2:=xR hrd
    simp only [aCj,aB7,aBh] at hlen h2
    have:=HBN.out
    omega
   have HT:=aEb (aAr hkL)
   have HB:=aEb (And.intro hrd hbl)
   clear hrd hfresh hbl
   generalize L[k]=x at *
   cases x
   ·go_wp2_with fail
    with_reducible refine (mL (HB.out.1.alloc _) (rd_0 _ _) (L:=[0]) (by simp) (by omega)).mono ?_
    rintro e w2 hp
    have hp2:=hp.later (HB.out.2.alloc HB.out.2.size _)
    obtain ⟨v2,rfl,hu2⟩:=hp2.upto
    clear hp hp2
    have HU:=aEb hu2
    clear hu2
    go_wp2
    go_roundw
    case rel => exact ⟨k + 1, by go_num, by omega, by rw [HT.out, aCo, xI, List.map_singleton, <- aBs]; exact HU.out⟩
    case measure=>simp [intOf];omega
   ·go_wp2_with fail
    with_reducible refine (mL (HB.out.1.alloc _) (rd_1 _ _) (L:=[1]) (by simp) (by omega)).mono ?_
    rintro e w2 hp
    have hp2:=hp.later (HB.out.2.alloc HB.out.2.size _)
    obtain ⟨v2,rfl,hu2⟩:=hp2.upto
    clear hp hp2
    have HU:=aEb hu2
    clear hu2
    go_wp2
    go_roundw
    case rel => exact ⟨k + 1, by go_num, by omega, by rw [HT.out, aCo, xI, List.map_singleton, <- aBs]; exact HU.out⟩
    case measure=>simp [intOf];omega
  ·obtain rfl:k=m:=by omega
   rw [aAz (by have:=HM.out;omega)] at hu
   have HU:=aEb hu
   clear hu
   go_wp2
   go_ret
   exact HU.out.packed
end Go.Proofs.YtlfjfopjjbbcoaaGreatDoor
namespace Go.Proofs
open Go.Proofs.Tryz
theorem fT {α:Type} {x:Option α} {a b:α} (h:x=some a) (e:a=b):x=some b:=h.trans (congrArg some e)
open Go.Shelf
def Tryz.lays156_ren:Go.Shelf.Ren:=⟨fun | 156=>148 | 165=>198 | 166=>199 | 169=>200 | 240=>233 | 241=>234 | 276=>249 | 277=>250 | n=>n,fun | 31=>95 | 9=>9 | 3=>3 | 4=>4 | 0=>0 | 20=>20 | 72=>283 | 76=>287 | 70=>281 | 37=>148 | 75=>286 | 127=>320 | 164=>333 | 5=>5 | 80=>89 | n=>n,fun | n=>n⟩
theorem Tryz.lays156: Go.Proofs.Lays.n156 prog Tryz.lays156_ren:={
 mixed:=by kernel_rfl
 f156:=fT func148 (by kernel_rfl)
 f165:=fT func198 (by kernel_rfl)
 f166:=fT func199 (by kernel_rfl)
 f169:=fT func200 (by kernel_rfl)
 f240:=fT func233 (by kernel_rfl)
 f241:=fT func234 (by kernel_rfl)
 f276:=fT func249 (by kernel_rfl)
 f277:=fT func250 (by kernel_rfl)
 t0:=underlying0
 a0:=isAgg0
 z0:=sizeOf0
 v0:=zeroValue0
 t3:=underlying3
 a3:=isAgg3
 z3:=sizeOf3
 v3:=zeroValue3
 t4:=underlying4
 a4:=isAgg4
 z4:=sizeOf4
 v4:=zeroValue4
 t9:=underlying9
 a9:=isAgg9
 z9:=sizeOf9
 v9:=zeroValue9
 t20:=underlying20
 a20:=isAgg20
 z20:=sizeOf20
 v20:=zeroValue20
 t31:=underlying95
 a31:=isAgg95
 z31:=sizeOf95
 v31:=zeroValue95
 t37:=underlying148
 a37:=isAgg148
 z37:=sizeOf148
 v37:=zeroValue148
 t70:=underlying281
 a70:=isAgg281
 z70:=sizeOf281
 v70:=zeroValue281
 t72:=underlying283
 a72:=isAgg283
 z72:=sizeOf283
 v72:=zeroValue283
 t75:=underlying286
 a75:=isAgg286
 z75:=sizeOf286
 v75:=zeroValue286
 t76:=underlying287
 a76:=isAgg287
 z76:=sizeOf287
 v76:=zeroValue287
 t127:=underlying320
 a127:=isAgg320
 z127:=sizeOf320
 v127:=zeroValue320
 t164:=underlying333
 a164:=isAgg333
 z164:=sizeOf333
 v164:=zeroValue333 }
theorem Tryz.Builder_Extra_156: Builder.Extra prog Tryz.lays156_ren:={
 sizeBuilder:=by kernel_rfl
 liesBuilder:=by kernel_rfl
 t5:=underlying5
 a5:=isAgg5
 z5:=sizeOf5
 v5:=zeroValue5
 infoByte:=by kernel_rfl
 cellsByte:=by kernel_rfl
 sizeByte:=by kernel_rfl
 neB5:=by decide }
open Go.RowKit in
theorem Tryz.strings_Join_none (a:Option Addr) (c:Nat) (sep:ByteArray) (w:World):
  Calls prog 148 #[.slice a 0 c,.string sep] w fun e w'=>e=.returned (.string ⟨#[]⟩)/\w'=w:=Any.strings_Join_none Tryz.lays156 Tryz.Builder_Extra_156 a c sep w
open Go.RowKit in
theorem Tryz.strings_Join (bk o c:Nat) (xs:List ByteArray) (sep:ByteArray) (w:World) (hcells:∀ (j:Nat) x,xs[j]? = some x->w.cell? ⟨bk,o+j,none⟩=some (.string x)) (hbk:bk<w.heap.size) (hN:xs.length<=140737488355328) (hcap:xs.length<=c) (hlen:(Lib.join (xs.map (·.data.toList)) sep.data.toList).length<=140737488355328):
  Calls prog 148 #[.slice (some ⟨bk,o,none⟩) xs.length c,.string sep] w fun e w'=>e=.returned (.string ⟨(Lib.join (xs.map (·.data.toList)) sep.data.toList).toArray⟩)/\Below w.heap.size w w':=Any.strings_Join Tryz.lays156 Tryz.Builder_Extra_156 bk o c xs sep w hcells hbk hN hcap hlen
def Tryz.lays125_ren:Go.Shelf.Ren:=⟨fun | 125=>238 | 128=>259 | 129=>260 | n=>n,fun | 46=>208 | 3=>3 | 51=>324 | 53=>104 | 4=>4 | 5=>5 | 9=>9 | n=>n,fun | n=>n⟩
theorem Tryz.lays125: Go.Proofs.Lays.n125 prog Tryz.lays125_ren:={
 mixed:=by kernel_rfl
 f125:=fT func238 (by kernel_rfl)
 f128:=fT func259 (by kernel_rfl)
 f129:=fT func260 (by kernel_rfl)
 t3:=underlying3
 a3:=isAgg3
 z3:=sizeOf3
 v3:=zeroValue3
 t4:=underlying4
 a4:=isAgg4
 z4:=sizeOf4
 v4:=zeroValue4
 t5:=underlying5
 a5:=isAgg5
 z5:=sizeOf5
 v5:=zeroValue5
 t9:=underlying9
 a9:=isAgg9
 z9:=sizeOf9
 v9:=zeroValue9
 t46:=underlying208
 a46:=isAgg208
 z46:=sizeOf208
 v46:=zeroValue208
 t51:=underlying324
 a51:=isAgg324
 z51:=sizeOf324
 v51:=zeroValue324
 t53:=underlying104
 a53:=isAgg104
 z53:=sizeOf104
 v53:=zeroValue104 }
theorem Tryz.bits_Len (x:Int) (w) (h0:0<=x) (h1:x<=18446744073709551615):
  Calls prog 238 #[.int .u64 x] w fun e w'=>e=.returned (.int .i64 (Lib.bitLen x.toNat))/\w'=w:=Any.bits_Len Tryz.lays125 x w h0 h1
def Tryz.lays106_ren:Go.Shelf.Ren:=⟨fun | 106=>159 | 213=>206 | 265=>235 | n=>n,fun | 9=>9 | 3=>3 | n=>n,fun | n=>n⟩
theorem Tryz.lays106: Go.Proofs.Lays.n106 prog Tryz.lays106_ren:={
 mixed:=by kernel_rfl
 f106:=fT func159 (by kernel_rfl)
 f213:=fT func206 (by kernel_rfl)
 f265:=fT func235 (by kernel_rfl)
 t3:=underlying3
 a3:=isAgg3
 z3:=sizeOf3
 v3:=zeroValue3
 t9:=underlying9
 a9:=isAgg9
 z9:=sizeOf9
 v9:=zeroValue9 }
open Go.RowKit in
theorem Tryz.strings_Compare (a b:ByteArray) (w:World):
  Calls prog 159 #[.string a,.string b] w fun e w'=>e=.returned (.int .i64 (Lib.compareBytes a.data.toList b.data.toList))/\w'=w:=Any.strings_Compare Tryz.lays106 a b w
def Tryz.laysM173_ren:Go.Shelf.Ren:=⟨fun | 173=>231 | 246=>248 | 283=>274 | 284=>275 | 285=>276 | 286=>277 | 129=>260 | 317=>294 | 318=>295 | 319=>296 | 320=>297 | 337=>306 | 338=>307 | n=>n,fun | 2=>2 | 3=>3 | 9=>9 | 4=>4 | 171=>360 | 0=>0 | 53=>104 | 37=>148 | 5=>5 | 173=>362 | 212=>373 | 51=>324 | 20=>20 | 213=>374 | 46=>208 | 232=>395 | 233=>396 | n=>n,fun | 17=>4 | 18=>9 | 19=>10 | n=>n⟩
theorem Tryz.laysM173: Go.Proofs.LaysM.n173 prog Tryz.laysM173_ren:={
 mixed:=by kernel_rfl
 f129:=fT func260 (by kernel_rfl)
 f173:=fT func231 (by kernel_rfl)
 f246:=fT func248 (by kernel_rfl)
 f283:=fT func274 (by kernel_rfl)
 f284:=fT func275 (by kernel_rfl)
 f285:=fT func276 (by kernel_rfl)
 f286:=fT func277 (by kernel_rfl)
 f317:=fT func294 (by kernel_rfl)
 f318:=fT func295 (by kernel_rfl)
 f319:=fT func296 (by kernel_rfl)
 f320:=fT func297 (by kernel_rfl)
 f337:=fT func306 (by kernel_rfl)
 f338:=fT func307 (by kernel_rfl)
 t0:=underlying0
 a0:=isAgg0
 z0:=sizeOf0
 v0:=zeroValue0
 t2:=underlying2
 a2:=isAgg2
 z2:=sizeOf2
 v2:=zeroValue2
 t3:=underlying3
 a3:=isAgg3
 z3:=sizeOf3
 v3:=zeroValue3
 t4:=underlying4
 a4:=isAgg4
 z4:=sizeOf4
 v4:=zeroValue4
 t5:=underlying5
 a5:=isAgg5
 z5:=sizeOf5
 v5:=zeroValue5
 t9:=underlying9
 a9:=isAgg9
 z9:=sizeOf9
 v9:=zeroValue9
 t20:=underlying20
 a20:=isAgg20
 z20:=sizeOf20
 v20:=zeroValue20
 t37:=underlying148
 a37:=isAgg148
 z37:=sizeOf148
 v37:=zeroValue148
 t46:=underlying208
 a46:=isAgg208
 z46:=sizeOf208
 v46:=zeroValue208
 t51:=underlying324
 a51:=isAgg324
 z51:=sizeOf324
 v51:=zeroValue324
 t53:=underlying104
 a53:=isAgg104
 z53:=sizeOf104
 v53:=zeroValue104
 t171:=underlying360
 a171:=isAgg360
 z171:=sizeOf360
 v171:=zeroValue360
 t173:=underlying362
 a173:=isAgg362
 z173:=sizeOf362
 v173:=zeroValue362
 t212:=underlying373
 a212:=isAgg373
 z212:=sizeOf373
 v212:=zeroValue373
 t213:=underlying374
 a213:=isAgg374
 z213:=sizeOf374
 t232:=underlying395
 a232:=isAgg395
 z232:=sizeOf395
 v232:=zeroValue395
 t233:=underlying396
 a233:=isAgg396
 z233:=sizeOf396
 v233:=zeroValue396
 g17:=by kernel_rfl
 g18:=by kernel_rfl
 g19:=by kernel_rfl
 i0:=by kernel_rfl
 i2:=by kernel_rfl
 i3:=by kernel_rfl
 i4:=by kernel_rfl
 i5:=by kernel_rfl
 i9:=by kernel_rfl
 i20:=by kernel_rfl
 i37:=by kernel_rfl
 i46:=by kernel_rfl
 i51:=by kernel_rfl
 i53:=by kernel_rfl
 i171:=by kernel_rfl
 i173:=by kernel_rfl
 i212:=by kernel_rfl
 i232:=by kernel_rfl
 i233:=by kernel_rfl
 m17:=by kernel_rfl
 m18:=by kernel_rfl
 m19:=by kernel_rfl }
open Go.RowKit Go.Sort Go.Lib in
theorem Tryz.strconv_FormatInt_10 (n:Int) (h0:-9223372036854775808<=n) (h1:n<=9223372036854775807) (w:World) (htab:Lib.TabIs prog w "internal/strconv.uint64pow10" .u64 Lib.pow10Tab):
  Calls prog 231 #[.int .i64 n,.int .i64 10] w fun e w'=>e=.returned (.string ⟨(Lib.itoa n).toArray⟩)/\∃ k os,w'=grow (w.drewN k) os:=Any.strconv_FormatInt_10 Tryz.laysM173 n h0 h1 w htab
def Tryz.laysC174_ren:Go.Shelf.Ren:=⟨fun | 174=>265 | 247=>287 | 245=>288 | 287=>299 | 279=>300 | 280=>301 | 281=>302 | 282=>303 | 321=>308 | 322=>309 | 316=>310 | 171=>312 | 205=>311 | 243=>315 | 246=>248 | 283=>274 | 284=>275 | 285=>276 | 286=>277 | 129=>260 | 317=>294 | 318=>295 | 319=>296 | 320=>297 | 337=>306 | 338=>307 | n=>n,fun | 9=>9 | 3=>3 | 2=>2 | 75=>286 | 85=>350 | 4=>4 | 167=>383 | 5=>5 | 53=>104 | 175=>384 | 46=>208 | 168=>386 | 37=>148 | 0=>0 | 210=>392 | 21=>21 | 127=>320 | 145=>399 | 143=>397 | 171=>360 | 173=>362 | 212=>373 | 51=>324 | 20=>20 | 213=>374 | 232=>395 | 233=>396 | 80=>89 | n=>n,fun | 15=>7 | 16=>8 | 17=>4 | 18=>9 | 19=>10 | n=>n⟩
theorem Tryz.laysC174: Go.Proofs.LaysC.n174 prog Tryz.laysC174_ren:={
 mixed:=by kernel_rfl
 f129:=fT func260 (by kernel_rfl)
 f171:=fT func312 (by kernel_rfl)
 f174:=fT func265 (by kernel_rfl)
 f205:=fT func311 (by kernel_rfl)
 f243:=fT func315 (by kernel_rfl)
 f245:=fT func288 (by kernel_rfl)
 f246:=fT func248 (by kernel_rfl)
 f247:=fT func287 (by kernel_rfl)
 f279:=fT func300 (by kernel_rfl)
 f280:=fT func301 (by kernel_rfl)
 f281:=fT func302 (by kernel_rfl)
 f282:=fT func303 (by kernel_rfl)
 f283:=fT func274 (by kernel_rfl)
 f284:=fT func275 (by kernel_rfl)
 f285:=fT func276 (by kernel_rfl)
 f286:=fT func277 (by kernel_rfl)
 f287:=fT func299 (by kernel_rfl)
 f316:=fT func310 (by kernel_rfl)
 f317:=fT func294 (by kernel_rfl)
 f318:=fT func295 (by kernel_rfl)
 f319:=fT func296 (by kernel_rfl)
 f320:=fT func297 (by kernel_rfl)
 f321:=fT func308 (by kernel_rfl)
 f322:=fT func309 (by kernel_rfl)
 f337:=fT func306 (by kernel_rfl)
 f338:=fT func307 (by kernel_rfl)
 t0:=underlying0
 a0:=isAgg0
 z0:=sizeOf0
 v0:=zeroValue0
 t2:=underlying2
 a2:=isAgg2
 z2:=sizeOf2
 v2:=zeroValue2
 t3:=underlying3
 a3:=isAgg3
 z3:=sizeOf3
 v3:=zeroValue3
 t4:=underlying4
 a4:=isAgg4
 z4:=sizeOf4
 v4:=zeroValue4
 t5:=underlying5
 a5:=isAgg5
 z5:=sizeOf5
 v5:=zeroValue5
 t9:=underlying9
 a9:=isAgg9
 z9:=sizeOf9
 v9:=zeroValue9
 t20:=underlying20
 a20:=isAgg20
 z20:=sizeOf20
 v20:=zeroValue20
 t21:=underlying21
 a21:=isAgg21
 z21:=sizeOf21
 v21:=zeroValue21
 t37:=underlying148
 a37:=isAgg148
 z37:=sizeOf148
 v37:=zeroValue148
 t46:=underlying208
 a46:=isAgg208
 z46:=sizeOf208
 v46:=zeroValue208
 t51:=underlying324
 a51:=isAgg324
 z51:=sizeOf324
 v51:=zeroValue324
 t53:=underlying104
 a53:=isAgg104
 z53:=sizeOf104
 v53:=zeroValue104
 t75:=underlying286
 a75:=isAgg286
 z75:=sizeOf286
 v75:=zeroValue286
 t85:=underlying350
 a85:=isAgg350
 z85:=sizeOf350
 v85:=zeroValue350
 t127:=underlying320
 a127:=isAgg320
 z127:=sizeOf320
 v127:=zeroValue320
 t143:=underlying397
 a143:=isAgg397
 z143:=sizeOf397
 v143:=zeroValue397
 t145:=underlying399
 a145:=isAgg399
 z145:=sizeOf399
 v145:=zeroValue399
 t167:=underlying383
 a167:=isAgg383
 z167:=sizeOf383
 v167:=zeroValue383
 t168:=underlying386
 a168:=isAgg386
 z168:=sizeOf386
 v168:=zeroValue386
 t171:=underlying360
 a171:=isAgg360
 z171:=sizeOf360
 v171:=zeroValue360
 t173:=underlying362
 a173:=isAgg362
 z173:=sizeOf362
 v173:=zeroValue362
 t175:=underlying384
 a175:=isAgg384
 z175:=sizeOf384
 v175:=zeroValue384
 t210:=underlying392
 a210:=isAgg392
 z210:=sizeOf392
 v210:=zeroValue392
 t212:=underlying373
 a212:=isAgg373
 z212:=sizeOf373
 v212:=zeroValue373
 t213:=underlying374
 a213:=isAgg374
 z213:=sizeOf374
 t232:=underlying395
 a232:=isAgg395
 z232:=sizeOf395
 v232:=zeroValue395
 t233:=underlying396
 a233:=isAgg396
 z233:=sizeOf396
 v233:=zeroValue396
 g15:=by kernel_rfl
 g16:=by kernel_rfl
 g17:=by kernel_rfl
 g18:=by kernel_rfl
 g19:=by kernel_rfl
 t80:=underlying89
 a80:=isAgg89
 z80:=sizeOf89
 v80:=zeroValue89
 i0:=by kernel_rfl
 i2:=by kernel_rfl
 i3:=by kernel_rfl
 i4:=by kernel_rfl
 i5:=by kernel_rfl
 i9:=by kernel_rfl
 i20:=by kernel_rfl
 i21:=by kernel_rfl
 i37:=by kernel_rfl
 i46:=by kernel_rfl
 i51:=by kernel_rfl
 i53:=by kernel_rfl
 i75:=by kernel_rfl
 i80:=by kernel_rfl
 i85:=by kernel_rfl
 i127:=by kernel_rfl
 i143:=by kernel_rfl
 i145:=by kernel_rfl
 i167:=by kernel_rfl
 i168:=by kernel_rfl
 i171:=by kernel_rfl
 i173:=by kernel_rfl
 i175:=by kernel_rfl
 i210:=by kernel_rfl
 i212:=by kernel_rfl
 i232:=by kernel_rfl
 i233:=by kernel_rfl
 m15:=by kernel_rfl
 m16:=by kernel_rfl
 m17:=by kernel_rfl
 m18:=by kernel_rfl
 m19:=by kernel_rfl
 c0:=by kernel_rfl
 c2:=by kernel_rfl
 c3:=by kernel_rfl
 c4:=by kernel_rfl
 c5:=by kernel_rfl
 c9:=by kernel_rfl
 c20:=by kernel_rfl
 c21:=by kernel_rfl
 c37:=by kernel_rfl
 c46:=by kernel_rfl
 c51:=by kernel_rfl
 c53:=by kernel_rfl
 c75:=by kernel_rfl
 c80:=by kernel_rfl
 c85:=by kernel_rfl
 c127:=by kernel_rfl
 c143:=by kernel_rfl
 c145:=by kernel_rfl
 c167:=by kernel_rfl
 c168:=by kernel_rfl
 c171:=by kernel_rfl
 c173:=by kernel_rfl
 c175:=by kernel_rfl
 c210:=by kernel_rfl
 c212:=by kernel_rfl
 c213:=by kernel_rfl
 c232:=by kernel_rfl
 c233:=by kernel_rfl }
open Go.RowKit in
theorem Tryz.strconv_ParseInt_10_at64_ok (s:ByteArray) (hmax:s.size<=9223372036854775806) (v:Int) (h:Lib.parseIntB 64 s.data.toList=.ok v) (w:World):
  Calls prog 265 #[.string s,.int .i64 10,.int .i64 64] w fun e w'=>e=.returned (.tuple #[.int .i64 v,.nilIface])/\(w'=w\/∃ t,w'=Lib.bytesWorld w 5 t):=Any.strconv_ParseInt_10_at64_ok Tryz.laysC174 s hmax v h w
def Tryz.laysM145_ren:Go.Shelf.Ren:=⟨fun | 145=>182 | 220=>224 | 219=>246 | 217=>266 | 225=>267 | 224=>268 | 267=>269 | 266=>289 | 314=>290 | n=>n,fun | 9=>9 | 4=>4 | 59=>263 | 3=>3 | 5=>5 | 46=>208 | 146=>325 | 51=>324 | n=>n,fun | 1=>2 | n=>n⟩
theorem Tryz.laysM145: Go.Proofs.LaysM.n145 prog Tryz.laysM145_ren:={
 mixed:=by kernel_rfl
 f145:=fT func182 (by kernel_rfl)
 f217:=fT func266 (by kernel_rfl)
 f219:=fT func246 (by kernel_rfl)
 f220:=fT func224 (by kernel_rfl)
 f224:=fT func268 (by kernel_rfl)
 f225:=fT func267 (by kernel_rfl)
 f266:=fT func289 (by kernel_rfl)
 f267:=fT func269 (by kernel_rfl)
 f314:=fT func290 (by kernel_rfl)
 t3:=underlying3
 a3:=isAgg3
 z3:=sizeOf3
 v3:=zeroValue3
 t4:=underlying4
 a4:=isAgg4
 z4:=sizeOf4
 v4:=zeroValue4
 t5:=underlying5
 a5:=isAgg5
 z5:=sizeOf5
 v5:=zeroValue5
 t9:=underlying9
 a9:=isAgg9
 z9:=sizeOf9
 v9:=zeroValue9
 t46:=underlying208
 a46:=isAgg208
 z46:=sizeOf208
 v46:=zeroValue208
 t51:=underlying324
 a51:=isAgg324
 z51:=sizeOf324
 v51:=zeroValue324
 t59:=underlying263
 a59:=isAgg263
 z59:=sizeOf263
 v59:=zeroValue263
 t146:=underlying325
 a146:=isAgg325
 z146:=sizeOf325
 v146:=zeroValue325
 g1:=by kernel_rfl
 i3:=by kernel_rfl
 i4:=by kernel_rfl
 i5:=by kernel_rfl
 i9:=by kernel_rfl
 i46:=by kernel_rfl
 i51:=by kernel_rfl
 i59:=by kernel_rfl
 i146:=by kernel_rfl
 m1:=by kernel_rfl
 s1_3:=fun w h=>Go.Proofs.cell_of_shapedOpen_int (zero:=#[.int .i64 0]) (t:=3) h (of_decide_eq_true (by kernel_rfl)) (by kernel_rfl) rfl (by kernel_rfl) (by kernel_rfl) underlying3 }
def Tryz.lays99_ren:Go.Shelf.Ren:=⟨fun | 99=>183 | 206=>225 | n=>n,fun | 9=>9 | 4=>4 | 3=>3 | n=>n,fun | n=>n⟩
theorem Tryz.lays99: Go.Proofs.Lays.n99 prog Tryz.lays99_ren:={
 mixed:=by kernel_rfl
 f99:=fT func183 (by kernel_rfl)
 f206:=fT func225 (by kernel_rfl)
 t3:=underlying3
 a3:=isAgg3
 z3:=sizeOf3
 v3:=zeroValue3
 t4:=underlying4
 a4:=isAgg4
 z4:=sizeOf4
 v4:=zeroValue4
 t9:=underlying9
 a9:=isAgg9
 z9:=sizeOf9
 v9:=zeroValue9 }
open Go.RowKit Go.Lib in
theorem Tryz.strings_HasPrefix (s p:ByteArray) (w:World):
  Calls prog 183 #[.string s,.string p] w fun e w'=>e=.returned (.bool (Lib.hasPrefix s.data.toList p.data.toList))/\w'=w:=Any.strings_HasPrefix Tryz.lays99 s p w
def Tryz.laysM146_ren:Go.Shelf.Ren:=⟨fun | 146=>176 | 221=>222 | 268=>242 | 138=>243 | 143=>244 | 195=>261 | 197=>262 | 218=>263 | 219=>246 | 260=>283 | 217=>266 | 225=>267 | 224=>268 | 267=>269 | 266=>289 | 314=>290 | n=>n,fun | 9=>9 | 31=>95 | 3=>3 | 4=>4 | 0=>0 | 105=>347 | 21=>21 | 5=>5 | 46=>208 | 119=>379 | 139=>382 | 138=>381 | 146=>325 | 51=>324 | n=>n,fun | 1=>2 | 3=>5 | 4=>6 | n=>n⟩
theorem Tryz.laysM146: Go.Proofs.LaysM.n146 prog Tryz.laysM146_ren:={
 mixed:=by kernel_rfl
 f138:=fT func243 (by kernel_rfl)
 f143:=fT func244 (by kernel_rfl)
 f146:=fT func176 (by kernel_rfl)
 f195:=fT func261 (by kernel_rfl)
 f197:=fT func262 (by kernel_rfl)
 f217:=fT func266 (by kernel_rfl)
 f218:=fT func263 (by kernel_rfl)
 f219:=fT func246 (by kernel_rfl)
 f221:=fT func222 (by kernel_rfl)
 f224:=fT func268 (by kernel_rfl)
 f225:=fT func267 (by kernel_rfl)
 f260:=fT func283 (by kernel_rfl)
 f266:=fT func289 (by kernel_rfl)
 f267:=fT func269 (by kernel_rfl)
 f268:=fT func242 (by kernel_rfl)
 f314:=fT func290 (by kernel_rfl)
 t0:=underlying0
 a0:=isAgg0
 z0:=sizeOf0
 v0:=zeroValue0
 t3:=underlying3
 a3:=isAgg3
 z3:=sizeOf3
 v3:=zeroValue3
 t4:=underlying4
 a4:=isAgg4
 z4:=sizeOf4
 v4:=zeroValue4
 t5:=underlying5
 a5:=isAgg5
 z5:=sizeOf5
 v5:=zeroValue5
 t9:=underlying9
 a9:=isAgg9
 z9:=sizeOf9
 v9:=zeroValue9
 t21:=underlying21
 a21:=isAgg21
 z21:=sizeOf21
 v21:=zeroValue21
 t31:=underlying95
 a31:=isAgg95
 z31:=sizeOf95
 v31:=zeroValue95
 t46:=underlying208
 a46:=isAgg208
 z46:=sizeOf208
 v46:=zeroValue208
 t51:=underlying324
 a51:=isAgg324
 z51:=sizeOf324
 v51:=zeroValue324
 t105:=underlying347
 a105:=isAgg347
 z105:=sizeOf347
 v105:=zeroValue347
 t119:=underlying379
 a119:=isAgg379
 z119:=sizeOf379
 t138:=underlying381
 a138:=isAgg381
 z138:=sizeOf381
 v138:=zeroValue381
 t139:=underlying382
 a139:=isAgg382
 z139:=sizeOf382
 v139:=zeroValue382
 t146:=underlying325
 a146:=isAgg325
 z146:=sizeOf325
 v146:=zeroValue325
 g1:=by kernel_rfl
 g3:=by kernel_rfl
 g4:=by kernel_rfl
 i0:=by kernel_rfl
 i3:=by kernel_rfl
 i4:=by kernel_rfl
 i5:=by kernel_rfl
 i9:=by kernel_rfl
 i21:=by kernel_rfl
 i31:=by kernel_rfl
 i46:=by kernel_rfl
 i51:=by kernel_rfl
 i105:=by kernel_rfl
 i138:=by kernel_rfl
 i139:=by kernel_rfl
 i146:=by kernel_rfl
 m1:=by kernel_rfl
 s1_3:=fun w h=>Go.Proofs.cell_of_shapedOpen_int (zero:=#[.int .i64 0]) (t:=3) h (of_decide_eq_true (by kernel_rfl)) (by kernel_rfl) rfl (by kernel_rfl) (by kernel_rfl) underlying3
 m3:=by kernel_rfl
 m4:=by kernel_rfl }
def Tryz.lays109_ren:Go.Shelf.Ren:=⟨fun | 109=>184 | n=>n,fun | 31=>95 | 9=>9 | 3=>3 | 0=>0 | 4=>4 | n=>n,fun | n=>n⟩
theorem Tryz.lays109: Go.Proofs.Lays.n109 prog Tryz.lays109_ren:={
 mixed:=by kernel_rfl
 f109:=fT func184 (by kernel_rfl)
 t0:=underlying0
 a0:=isAgg0
 z0:=sizeOf0
 v0:=zeroValue0
 t3:=underlying3
 a3:=isAgg3
 z3:=sizeOf3
 v3:=zeroValue3
 t4:=underlying4
 a4:=isAgg4
 z4:=sizeOf4
 v4:=zeroValue4
 t9:=underlying9
 a9:=isAgg9
 z9:=sizeOf9
 v9:=zeroValue9
 t31:=underlying95
 a31:=isAgg95
 z31:=sizeOf95
 v31:=zeroValue95 }
open Go.Lib in
theorem Tryz.slices_Index_string (b off n c:Nat) (zs:List ByteArray) (x:ByteArray) (w:World) (hz:n<=zs.length) (hbig:n<=9223372036854775807) (hc:∀ j,j<zs.length->w.cell? ⟨b,off+j,none⟩=some (.string (zs.getD j ByteArray.empty))):
  Calls prog 184 #[.slice (some ⟨b,off,none⟩) n c,.string x] w fun e w'=>e=.returned (.int .i64 (Lib.idxOfS (zs.take n) x))/\w'=w:=Any.slices_Index_string Tryz.lays109 b off n c zs x w hz hbig hc
def Tryz.lays110_ren:Go.Shelf.Ren:=⟨fun | 110=>189 | 109=>184 | n=>n,fun | 31=>95 | 9=>9 | 4=>4 | 3=>3 | 0=>0 | n=>n,fun | n=>n⟩
theorem Tryz.lays110: Go.Proofs.Lays.n110 prog Tryz.lays110_ren:={
 mixed:=by kernel_rfl
 f109:=fT func184 (by kernel_rfl)
 f110:=fT func189 (by kernel_rfl)
 t0:=underlying0
 a0:=isAgg0
 z0:=sizeOf0
 v0:=zeroValue0
 t3:=underlying3
 a3:=isAgg3
 z3:=sizeOf3
 v3:=zeroValue3
 t4:=underlying4
 a4:=isAgg4
 z4:=sizeOf4
 v4:=zeroValue4
 t9:=underlying9
 a9:=isAgg9
 z9:=sizeOf9
 v9:=zeroValue9
 t31:=underlying95
 a31:=isAgg95
 z31:=sizeOf95
 v31:=zeroValue95 }
open Go.Lib in
theorem Tryz.slices_Contains_string (b off n c:Nat) (zs:List ByteArray) (x:ByteArray) (w:World) (hz:n<=zs.length) (hbig:n<=9223372036854775807) (hc:∀ j,j<zs.length->w.cell? ⟨b,off+j,none⟩=some (.string (zs.getD j ByteArray.empty))):
  Calls prog 189 #[.slice (some ⟨b,off,none⟩) n c,.string x] w fun e w'=>e=.returned (.bool (Lib.containsS (zs.take n) x))/\w'=w:=Any.slices_Contains_string Tryz.lays110 b off n c zs x w hz hbig hc
open Go.Lib in
theorem Tryz.slices_Contains_string_empty (a:Option Addr) (c:Nat) (x:ByteArray) (w:World):
  Calls prog 189 #[.slice a 0 c,.string x] w fun e w'=>e=.returned (.bool false)/\w'=w:=Any.slices_Contains_string_empty Tryz.lays110 a c x w
def Tryz.laysSlE43_f209_ren:Go.Shelf.Ren:=⟨fun | 43=>209 | n=>n,fun | 22=>39 | 23=>2 | 3=>3 | 4=>4 | 0=>0 | n=>n,fun | n=>n⟩
theorem Tryz.laysSlE43_f209: Go.Proofs.SlLaysE.n43 prog Tryz.laysSlE43_f209_ren:={
 mixed:=by kernel_rfl
 f43:=⟨Tryz.f209.name,by decide,fT func209 (by kernel_rfl)⟩
 t0:=underlying0
 a0:=isAgg0
 z0:=sizeOf0
 v0:=zeroValue0
 t3:=underlying3
 a3:=isAgg3
 z3:=sizeOf3
 v3:=zeroValue3
 t4:=underlying4
 a4:=isAgg4
 z4:=sizeOf4
 v4:=zeroValue4
 t22:=underlying39
 a22:=isAgg39
 z22:=sizeOf39
 v22:=zeroValue39
 a23:=isAgg2
 z23:=sizeOf2 }
open Go.RowKit Go.Lib Go.Sort in
theorem Tryz.slices_Compact {α:Type} [Inhabited α] [DecidableEq α] (enc:α->Value) (hO:OneCell enc) (heq:EqlAt prog 2 enc (fun x y=>decide (x=y))) (hne:NeqAt prog 2 enc (fun x y=>decide (x=y))) (zr:α) (v23:∀ w,(zeroValue 2).run prog w=.ok (enc zr) w) (blk off cap:Nat) (d:Array α) (w:World) (hH:Holds enc w blk off d) (hsz:d.size<=9223372036854775807) (hcap:d.size<=cap):
  Calls prog 209 #[.slice (some ⟨blk,off,none⟩) d.size cap] w fun e w'=>e=.returned (.slice (some ⟨blk,off,none⟩) (compactUpTo d d.size).length cap)/\∃ q,w'=putRow enc (Sort.ahead w q) blk off (compactUpTo d d.size++List.replicate (d.size - (compactUpTo d d.size).length) zr).toArray:=AnyE.slices_Compact Tryz.laysSlE43_f209 enc hO heq hne zr v23 blk off cap d w hH hsz hcap
def Tryz.laysSlE041_f210_ren:Go.Shelf.Ren:=⟨fun | 41=>210 | n=>n,fun | 22=>39 | 23=>2 | 4=>4 | n=>n,fun | n=>n⟩
theorem Tryz.laysSlE041_f210: Go.Proofs.SlLaysE0.n41 prog Tryz.laysSlE041_f210_ren:={
 mixed:=by kernel_rfl
 f41:=⟨Tryz.f210.name,by decide,fT func210 (by kernel_rfl)⟩
 t4:=underlying4
 a4:=isAgg4
 z4:=sizeOf4
 v4:=zeroValue4
 t22:=underlying39
 a22:=isAgg39
 z22:=sizeOf39
 v22:=zeroValue39 }
open Go.RowKit Go.Lib in
theorem Tryz.slices_Clone (i0:TypeInfo) (z:Value) (size bytes:Nat) (hi:prog.info? 2=some i0) (hz0:i0.zero=some z) (hz1:i0.size=size) (hz2:i0.bytes=bytes) (hzs:z.cells.size=size) (hsz:0<size) (z23:∀ w,(Go.sizeOf 2).run prog w=.ok size w) (b off n c:Nat) (news:List Value) (w:World) (hl:news.length=n*size) (hn:n<=maxLen) (hbig:n*bytes<=140737488355328) (hc:∀ j u,news[j]? = some u->w.cell? ⟨b,off+j,none⟩=some u) (h1:∀ u∈news,u.oneCell'=true):
  Calls prog 210 #[.slice (some ⟨b,off,none⟩) n c] w fun e w'=>∃ v',e=.returned v'/\w'.ownsRow w.heap.size 2 size v' n news/\v'≠.slice none 0 0/\Below w.heap.size w w':=AnyE.slices_Clone Tryz.laysSlE041_f210 i0 z size bytes hi hz0 hz1 hz2 hzs hsz z23 b off n c news w hl hn hbig hc h1
open Go.RowKit Go.Lib in
theorem Tryz.slices_Clone_nil (n c:Nat) (w:World):
  Calls prog 210 #[.slice none n c] w fun e w'=>e=.returned (.slice none 0 0)/\w'=w:=AnyE.slices_Clone_nil Tryz.laysSlE041_f210 n c w
def Tryz.lays162_ren:Go.Shelf.Ren:=⟨fun | 162=>247 | 232=>270 | 227=>271 | 234=>272 | 236=>273 | 228=>291 | 271=>292 | 151=>293 | 120=>304 | 197=>262 | 152=>305 | 260=>283 | 137=>313 | 119=>314 | 224=>268 | 225=>267 | 217=>266 | 266=>289 | n=>n,fun | 9=>9 | 4=>4 | 3=>3 | 5=>5 | 117=>356 | 116=>355 | 0=>0 | 124=>359 | 21=>21 | 105=>347 | 46=>208 | 119=>379 | 139=>382 | 138=>381 | n=>n,fun | 3=>5 | 4=>6 | n=>n⟩
theorem Tryz.lays162: Go.Proofs.Lays.n162 prog Tryz.lays162_ren:={
 mixed:=by kernel_rfl
 f119:=fT func314 (by kernel_rfl)
 f120:=fT func304 (by kernel_rfl)
 f137:=fT func313 (by kernel_rfl)
 f151:=fT func293 (by kernel_rfl)
 f152:=fT func305 (by kernel_rfl)
 f162:=fT func247 (by kernel_rfl)
 f197:=fT func262 (by kernel_rfl)
 f217:=fT func266 (by kernel_rfl)
 f224:=fT func268 (by kernel_rfl)
 f225:=fT func267 (by kernel_rfl)
 f227:=fT func271 (by kernel_rfl)
 f228:=fT func291 (by kernel_rfl)
 f232:=fT func270 (by kernel_rfl)
 f234:=fT func272 (by kernel_rfl)
 f236:=fT func273 (by kernel_rfl)
 f260:=fT func283 (by kernel_rfl)
 f266:=fT func289 (by kernel_rfl)
 f271:=fT func292 (by kernel_rfl)
 t0:=underlying0
 a0:=isAgg0
 z0:=sizeOf0
 v0:=zeroValue0
 t3:=underlying3
 a3:=isAgg3
 z3:=sizeOf3
 v3:=zeroValue3
 t4:=underlying4
 a4:=isAgg4
 z4:=sizeOf4
 v4:=zeroValue4
 t5:=underlying5
 a5:=isAgg5
 z5:=sizeOf5
 v5:=zeroValue5
 t9:=underlying9
 a9:=isAgg9
 z9:=sizeOf9
 v9:=zeroValue9
 t21:=underlying21
 a21:=isAgg21
 z21:=sizeOf21
 v21:=zeroValue21
 t46:=underlying208
 a46:=isAgg208
 z46:=sizeOf208
 v46:=zeroValue208
 t105:=underlying347
 a105:=isAgg347
 z105:=sizeOf347
 v105:=zeroValue347
 t116:=underlying355
 a116:=isAgg355
 z116:=sizeOf355
 t117:=underlying356
 a117:=isAgg356
 z117:=sizeOf356
 v117:=zeroValue356
 t119:=underlying379
 a119:=isAgg379
 z119:=sizeOf379
 t124:=underlying359
 a124:=isAgg359
 z124:=sizeOf359
 v124:=zeroValue359
 t138:=underlying381
 a138:=isAgg381
 z138:=sizeOf381
 v138:=zeroValue381
 t139:=underlying382
 a139:=isAgg382
 z139:=sizeOf382
 v139:=zeroValue382
 g3:=by kernel_rfl
 g4:=by kernel_rfl }
def Tryz.lays160_ren:Go.Shelf.Ren:=⟨fun | 160=>264 | 232=>270 | 231=>284 | 227=>271 | 234=>272 | 233=>285 | 236=>273 | 235=>286 | 228=>291 | 271=>292 | 151=>293 | 197=>262 | 120=>304 | 152=>305 | 260=>283 | 137=>313 | 119=>314 | 224=>268 | 225=>267 | 217=>266 | 266=>289 | n=>n,fun | 9=>9 | 4=>4 | 3=>3 | 5=>5 | 117=>356 | 116=>355 | 0=>0 | 124=>359 | 21=>21 | 105=>347 | 46=>208 | 119=>379 | 139=>382 | 138=>381 | n=>n,fun | 3=>5 | 4=>6 | n=>n⟩
theorem Tryz.lays160: Go.Proofs.Lays.n160 prog Tryz.lays160_ren:={
 mixed:=by kernel_rfl
 f119:=fT func314 (by kernel_rfl)
 f120:=fT func304 (by kernel_rfl)
 f137:=fT func313 (by kernel_rfl)
 f151:=fT func293 (by kernel_rfl)
 f152:=fT func305 (by kernel_rfl)
 f160:=fT func264 (by kernel_rfl)
 f197:=fT func262 (by kernel_rfl)
 f217:=fT func266 (by kernel_rfl)
 f224:=fT func268 (by kernel_rfl)
 f225:=fT func267 (by kernel_rfl)
 f227:=fT func271 (by kernel_rfl)
 f228:=fT func291 (by kernel_rfl)
 f231:=fT func284 (by kernel_rfl)
 f232:=fT func270 (by kernel_rfl)
 f233:=fT func285 (by kernel_rfl)
 f234:=fT func272 (by kernel_rfl)
 f235:=fT func286 (by kernel_rfl)
 f236:=fT func273 (by kernel_rfl)
 f260:=fT func283 (by kernel_rfl)
 f266:=fT func289 (by kernel_rfl)
 f271:=fT func292 (by kernel_rfl)
 t0:=underlying0
 a0:=isAgg0
 z0:=sizeOf0
 v0:=zeroValue0
 t3:=underlying3
 a3:=isAgg3
 z3:=sizeOf3
 v3:=zeroValue3
 t4:=underlying4
 a4:=isAgg4
 z4:=sizeOf4
 v4:=zeroValue4
 t5:=underlying5
 a5:=isAgg5
 z5:=sizeOf5
 v5:=zeroValue5
 t9:=underlying9
 a9:=isAgg9
 z9:=sizeOf9
 v9:=zeroValue9
 t21:=underlying21
 a21:=isAgg21
 z21:=sizeOf21
 v21:=zeroValue21
 t46:=underlying208
 a46:=isAgg208
 z46:=sizeOf208
 v46:=zeroValue208
 t105:=underlying347
 a105:=isAgg347
 z105:=sizeOf347
 v105:=zeroValue347
 t116:=underlying355
 a116:=isAgg355
 z116:=sizeOf355
 t117:=underlying356
 a117:=isAgg356
 z117:=sizeOf356
 v117:=zeroValue356
 t119:=underlying379
 a119:=isAgg379
 z119:=sizeOf379
 t124:=underlying359
 a124:=isAgg359
 z124:=sizeOf359
 v124:=zeroValue359
 t138:=underlying381
 a138:=isAgg381
 z138:=sizeOf381
 v138:=zeroValue381
 t139:=underlying382
 a139:=isAgg382
 z139:=sizeOf382
 v139:=zeroValue382
 g3:=by kernel_rfl
 g4:=by kernel_rfl }
def Tryz.clone214_ren:Go.Shelf.Ren:=⟨fun | 41=>214 | n=>n,fun | 22=>67 | 23=>112 | 4=>4 | n=>n,fun | n=>n⟩
theorem Tryz.clone214: Go.Proofs.SlLaysE0.n41 prog Tryz.clone214_ren:={
 mixed:=by kernel_rfl
 f41:=⟨Tryz.f214.name,by decide,fT func214 (by kernel_rfl)⟩
 t4:=underlying4
 a4:=isAgg4
 z4:=sizeOf4
 v4:=zeroValue4
 t22:=underlying67
 a22:=isAgg67
 z22:=sizeOf67
 v22:=zeroValue67 }
end Go.Proofs
namespace Go.Proofs.YtlfjfopjjbbcoaaGreatDoor
section
open Go.Lib (decDigits trimS trimLeftS trimRightS parseIntB parseUintB parseUintM NumEnd)
def fH (b:UInt8):Bool:=decide (48<=b.toNat/\b.toNat<=57)
def AA (n:Nat) (b:UInt8):Nat:=n*10+(b.toNat - 48)
def val (l:List UInt8):Nat:=l.foldl AA 0
def KK:Nat:=1099511627776
def OG:List UInt8:=[48,49,50,51,52,53,54,55,56,57]
def eN:List UInt8:=[75,77,71,84,105,66]
def Ak (l:List UInt8):Bool:=l.all fH&&decide (1<=l.length)&&decide (l.length<=13)&&!(decide (1<l.length)&&decide (l.head? = some 48))&&decide (val l<=KK)
def vS (l:List UInt8):Int:=if Ak l=true then (val l:Int) else 0
def zG (l:List UInt8):Int:=if Ak l=true then 0 else 130
theorem OE {p:UInt8->Bool} (h:(List.range 256).all (fun n=>p (UInt8.ofNat n))=true) (b:UInt8):p b=true:=by
 have:=aB1.1 h b.toNat (aCw.2 b.toNat_lt)
 simpa using this
theorem Db (b:UInt8):OG.contains b=fH b:=by
 have:=OE (p:=fun b=>OG.contains b == fH b) (by decide +kernel) b
 simpa using this
theorem FT (b:UInt8) (h:eN.contains b=true):fH b=false:=by
 have:=OE (p:=fun b=>!(eN.contains b&&fH b)) (by decide +kernel) b
 rw [h] at this
 simpa using this
theorem Pb (l:List UInt8):∀ n,l.foldl AA n<(n+1)*10 ^ l.length\/l.all fH=false:=by
 induction l with
 | nil=>intro n;left;simp
 | cons b r ih=>
  intro n
  rcases ih (AA n b) with h | h
  ·by_cases hb:fH b=true
   ·left
    simp only [List.foldl_cons,aB3]
    refine aBi h ?_
    have hb':b.toNat - 48<=9:=by simp [fH] at hb;omega
    rw [aDg,Nat.mul_comm (10 ^ r.length) 10,<- Nat.mul_assoc]
    refine aA6 _ ?_
    unfold AA
    omega
   ·right;simp [hb]
  ·right;simp [h]
theorem RP (h:l.all fH=true):val l<10 ^ l.length:=by
 rcases Pb l 0 with h' | h'
 ·simpa [val] using h'
 ·rw [h] at h';cases h'
theorem DK: ∀ (l:List UInt8) (acc:Nat),l.all fH=true->(acc+1)*10 ^ l.length<=10 ^ 14->parseUintM (2 ^ 64 - 1) acc l=.ok (l.foldl AA acc)
 | [],acc,_,_=>by simp [parseUintM]
 | b::r,acc,h,hb=>by
  simp only [aC1,aB0] at h
  have hd:48<=b.toNat/\b.toNat<=57:=by simpa [fH] using h.1
  have hle:(AA acc b+1)*10 ^ r.length<=10 ^ 14:=by
   refine aC7 ?_ hb
   rw [aB3,aDg,Nat.mul_comm (10 ^ r.length) 10,<- Nat.mul_assoc]
   refine aA6 _ ?_
   unfold AA
   omega
  have hs:AA acc b+1<=10 ^ 14:=aC7 (Nat.le_mul_of_pos_right _ (Nat.pow_pos (by omega))) hle
  have hs':acc*10+(b.toNat - 48)+1<=100000000000000:=hs
  rw [parseUintM,aEc hd,aEd (by omega),aEd (by omega)]
  exact DK r _ h.2 hle
theorem RD (h:l.all fH=true) (h1:1<=l.length) (h2:l.length<=13):parseIntB 64 l=.ok (val l):=by
 cases l with
 | nil=>simp at h1
 | cons c r=>
  have hd:48<=c.toNat/\c.toNat<=57:=by
   simp only [aC1,aB0] at h
   simpa [fH] using h.1
  have hp:parseUintB 64 (c::r)=.ok (val (c::r)):=by
   unfold parseUintB
   rw [aEd (by simp)]
   refine DK _ 0 h ?_
   have:10 ^ (c::r).length<=10 ^ 13:=Nat.pow_le_pow_right (by omega) h2
   omega
  have hv:=RP h
  have:10 ^ (c::r).length<=10 ^ 13:=Nat.pow_le_pow_right (by omega) h2
  have e1:¬ (c.toNat=43\/c.toNat=45):=by omega
  have e2:¬ c.toNat=45:=by omega
  have hb:val (c::r)<2 ^ 63:=aBi (aBi hv this) (by decide)
  unfold parseIntB
  simp only [aEd e1]
  rw [hp]
  simp only [e2,not_false_eq_true,true_and,false_and,if_false]
  rw [aEd (by simp at hb ⊢;exact hb)]
theorem pJ {α:Type} {p:α->Bool}:∀ {l:List α},l.dropWhile p=[]↔l.all p=true
 | []=>by simp
 | x::r=>by
  cases h:p x
  ·simp [h]
  ·simp [h,pJ (l:=r)]
theorem BY (l):(trimS l OG=[])↔l.all fH=true:=by
 have hc:(fun b=>OG.contains b)=fH:=funext Db
 have hl:∀ m:List UInt8,trimLeftS m OG=[]↔m.all fH=true:=by
  intro m
  unfold trimLeftS
  rw [hc]
  exact pJ
 unfold trimS
 rw [hl]
 unfold trimRightS
 rw [hc]
 constructor
 ·intro h
  have hsplit:=aAs (p:=fH) (l:=l.reverse)
  have h2:(l.reverse.dropWhile fH).all fH=true:=by
   rw [aB2] at h;exact h
  have h3:(l.reverse.takeWhile fH).all fH=true:=by simp
  have:l.reverse.all fH=true:=by
   rw [<- hsplit,aCs,h2,h3];rfl
  rw [aB2] at this;exact this
 ·intro h
  have:l.reverse.dropWhile fH=[]:=pJ.2 (by rw [aB2];exact h)
  rw [this];rfl
theorem uV: ∀ (k u:Nat),u<10 ^ (k+1)->(decDigits u).length<=k+1
 | 0,u,h=>by rw [decDigits,dif_pos (by simpa using h)];simp
 | k+1,u,h=>by
  rw [decDigits]
  split
  ·simp
  ·have:=uV k (u / 10) (by rw [aDg] at h;omega)
   simp;omega
def lW (n:Int):List UInt8:=if 0<=n/\n<=KK then decDigits n.toNat else []
end
open Go.Proofs.Tryz
open Go.RowKit
def iH (n:Int):Int:=if n<0 then 0 else if 1099511627776<n then 1099511627776 else n
def bC (n:Int):Bool:=decide (0<=n)&&decide (n<=1099511627776)
set_option maxHeartbeats 400000 in
theorem gL (n:Int) (w:World) (h0:-9223372036854775808<=n) (h1:n<=9223372036854775807):Calls prog 26 #[.int .i64 n] w fun e w'=>e=.returned (.int .i64 (iH n))/\w=w':=by
 go_enter func26, ntmps26
 go_wp2
 go_ret
 refine ⟨?_,rfl⟩
 have:min (max n 0) 1099511627776=iH n:=by unfold iH;split <;> (try split) <;> omega
 show Ending.returned (.int .i64 (min (max n 0) 1099511627776))=_
 rw [this]
theorem wL (h:Ak l=false):vS l=0/\zG l=130:=by simp [vS,zG,h]
theorem Eb (h:Ak l=true):vS l=val l/\zG l=0:=by simp [vS,zG,h]
theorem MO (h:l.length<1):Ak l=false:=by
 have:l=[]:=aAt (by omega)
 subst this;rfl
theorem Po (h:13<l.length):Ak l=false:=by
 have:decide (l.length<=13)=false:=by simp;omega
 simp [Ak,this]
theorem Ia (h:l.all fH=false):Ak l=false:=by
 unfold Ak;rw [h];rfl
theorem NR (h:1<l.length) (h0:l.head? = some 48):Ak l=false:=by
 have:decide (1<l.length)=true:=by simpa using h
 simp only [Ak,this,h0,decide_true,Bool.and_true,Bool.not_true,Bool.and_false,Bool.false_and]
theorem Xl (h1:1<=l.length) (h2:l.length<=13) (h3:l.all fH=true) (h4:¬ (1<l.length/\l.head? = some 48)):Ak l=decide (val l<=KK):=by
 have e1:decide (1<=l.length)=true:=by simpa using h1
 have e2:decide (l.length<=13)=true:=by simpa using h2
 have e3:(decide (1<l.length)&&decide (l.head? = some 48))=false:=by
  simp only [Bool.and_eq_false_iff,decide_eq_false_iff_not]
  by_cases h:1<l.length
  ·exact .inr fun h'=>h4 ⟨h,h'⟩
  ·exact .inl h
 unfold Ak
 rw [h3,e1,e2,e3];simp
theorem JW {s:ByteArray} (h:0<s.size):s.data.toList.head? = some s[0]:=by
 rw [List.head?_eq_getElem?]
 rw [List.getElem?_eq_getElem (by simpa using h)]
 rfl
set_option maxHeartbeats 400000 in
theorem Fg (s:ByteArray) (w:World) (h1:s.size<1):Calls prog 245 #[.string s] w fun e w'=>e=.returned (.tuple #[.int .i64 (vS s.data.toList),.int .i64 (zG s.data.toList)])/\Below w.heap.size w w':=by
 have hk:=wL (MO (l:=s.data.toList) (by simpa using h1))
 rw [hk.1,hk.2]
 clear hk
 go_enter func245, ntmps245
 go_wp2
 go_ret2
 exact ⟨rfl,aDt _ _⟩
set_option maxHeartbeats 400000 in
theorem FL (s:ByteArray) (w:World) (hs:s.size<=140737488351232) (h1:13<s.size):Calls prog 245 #[.string s] w fun e w'=>e=.returned (.tuple #[.int .i64 (vS s.data.toList),.int .i64 (zG s.data.toList)])/\Below w.heap.size w w':=by
 have hk:=wL (Po (l:=s.data.toList) (by simpa using h1))
 rw [hk.1,hk.2]
 clear hk
 go_enter func245, ntmps245
 go_wp2
 go_ret2
 exact ⟨rfl,aDt _ _⟩
set_option maxHeartbeats 400000 in
theorem Ci (s:ByteArray) (w:World) (h1:1<=s.size) (h2:s.size<=13) (h3:s.data.toList.all fH=false):Calls prog 245 #[.string s] w fun e w'=>e=.returned (.tuple #[.int .i64 (vS s.data.toList),.int .i64 (zG s.data.toList)])/\Below w.heap.size w w':=by
 have hk:=wL (Ia h3)
 rw [hk.1,hk.2]
 have hT:¬ Lib.trimS s.data.toList [48,49,50,51,52,53,54,55,56,57]=[]:=fun h=>by
  have:=(BY s.data.toList).1 h
  rw [h3] at this;cases this
 clear hk h3
 go_enter func245, ntmps245
 go_wp2_with fail
 refine (aA5 lays160 (by kernel_rfl) _ _ _ (by omega) (by decide) (ascii_of_all (by decide))).mono ?_
 rintro e w1 ⟨rfl,hb1⟩
 go_wp2
 go_ret2
 exact ⟨rfl,hb1⟩
set_option maxHeartbeats 400000 in
theorem FH (s:ByteArray) (w:World) (h1:1<s.size) (h2:s.size<=13) (h3:s.data.toList.all fH=true) (h4:s.data.toList.head? = some 48):Calls prog 245 #[.string s] w fun e w'=>e=.returned (.tuple #[.int .i64 (vS s.data.toList),.int .i64 (zG s.data.toList)])/\Below w.heap.size w w':=by
 have hk:=wL (NR (l:=s.data.toList) (by simpa using h1) h4)
 rw [hk.1,hk.2]
 have hT:Lib.trimS s.data.toList [48,49,50,51,52,53,54,55,56,57]=[]:=(BY s.data.toList).2 h3
 have h0:0<s.size:=by omega
 have hz:((s[0].toNat:Int) == 48)=true:=by
  rw [JW h0] at h4
  simp only [aBv] at h4
  rw [h4];rfl
 clear hk h3 h4
 go_enter func245, ntmps245
 go_wp2_with fail
 refine (aA5 lays160 (by kernel_rfl) _ _ _ (by omega) (by decide) (ascii_of_all (by decide))).mono ?_
 rintro e w1 ⟨rfl,hb1⟩
 go_wp2_with fail
 go_ret2
 exact ⟨rfl,hb1⟩
theorem CG (h:w2=w1\/∃ t,w2=Lib.bytesWorld w1 e t):Below w1.heap.size w1 w2:=by
 rcases h with rfl | ⟨t,rfl⟩
 ·exact aDt _ _
 ·exact Lib.bytesWorld_below _ _ _
theorem kS (h:Below w.heap.size w w1) (k:Below w1.heap.size w1 w2):Below w.heap.size w w2:=h.trans (k.mono h.size)
set_option maxHeartbeats 400000 in
theorem FN (s:ByteArray) (w:World) (h1:1<=s.size) (h2:s.size<=13) (h3:s.data.toList.all fH=true) (h4:¬ (1<s.size/\s.data.toList.head? = some 48)):Calls prog 245 #[.string s] w fun e w'=>e=.returned (.tuple #[.int .i64 (vS s.data.toList),.int .i64 (zG s.data.toList)])/\Below w.heap.size w w':=by
 have h0:0<s.size:=by omega
 have hT:Lib.trimS s.data.toList [48,49,50,51,52,53,54,55,56,57]=[]:=(BY s.data.toList).2 h3
 have hl:s.data.toList.length=s.size:=by simp
 have hok:=Xl (l:=s.data.toList) (by omega) (by omega) h3 (by rw [hl];exact h4)
 have hp:=RD h3 (by omega) (by omega)
 have hv:val s.data.toList<10000000000000:=by
  exact aBi (RP h3) (aC7 (Nat.pow_le_pow_right (by omega) (show _<=13 by omega)) (by decide))
 have hz:s.size<=1\/(1<s.size/\((s[0].toNat:Int) == 48)=false):=by
  by_cases hlt:1<s.size
  ·refine .inr ⟨hlt,?_⟩
   rw [beq_eq_false_iff_ne]
   intro he
   refine h4 ⟨hlt,?_⟩
   rw [JW h0]
   congr 1
   apply UInt8.toNat_inj.1
   show s[0].toNat=48
   omega
  ·exact .inl (by omega)
 have Hp:=aEb hp
 clear hp h3 h4 hl
 by_cases ht:val s.data.toList<=KK
 ·have hk:=Eb (l:=s.data.toList) (by rw [hok];simpa using ht)
  rw [hk.1,hk.2]
  clear hk hok
  generalize val s.data.toList=v at *
  have hsat:iH v=v:=by unfold iH;unfold KK at ht;rw [aEd (by omega),aEd (by omega)]
  unfold KK at ht
  rcases hz with hz | ⟨hz,hy⟩
  all_goals
   go_enter func245, ntmps245
   go_wp2_with fail
   refine (aA5 lays160 (by kernel_rfl) _ _ _ (by omega) (by decide) (ascii_of_all (by decide))).mono ?_
   rintro e w1 ⟨rfl,hb1⟩
   go_wp2_with fail
   refine (strconv_ParseInt_10_at64_ok s (by omega) v Hp.out _).mono ?_
   rintro e w2 ⟨rfl,hb2⟩
   have hb:=kS hb1 (CG hb2)
   clear hb1 hb2
   go_wp2_with fail
   refine (gL _ _ (by omega) (by omega)).mono ?_
   rintro e w' ⟨rfl,rfl⟩
   go_wp2
   go_ret2
   exact ⟨rfl,hb⟩
 ·have hk:=wL (l:=s.data.toList) (by rw [hok];simpa using ht)
  rw [hk.1,hk.2]
  clear hk hok
  generalize val s.data.toList=v at *
  unfold KK at ht
  have hsat:((v:Int) != iH v)=true:=by unfold iH;rw [aEd (by omega),aEc (by omega),bne_iff_ne];omega
  rcases hz with hz | ⟨hz,hy⟩
  all_goals
   go_enter func245, ntmps245
   go_wp2_with fail
   refine (aA5 lays160 (by kernel_rfl) _ _ _ (by omega) (by decide) (ascii_of_all (by decide))).mono ?_
   rintro e w1 ⟨rfl,hb1⟩
   go_wp2_with fail
   refine (strconv_ParseInt_10_at64_ok s (by omega) v Hp.out _).mono ?_
   rintro e w2 ⟨rfl,hb2⟩
   have hb:=kS hb1 (CG hb2)
   clear hb1 hb2
   go_wp2_with fail
   refine (gL _ _ (by omega) (by omega)).mono ?_
   rintro e w' ⟨rfl,rfl⟩
   go_wp2
   go_ret2
   exact ⟨rfl,hb⟩
theorem CA (s) (w) (hs:s.size<=140737488351232):Calls prog 245 #[.string s] w fun e w'=>e=.returned (.tuple #[.int .i64 (vS s.data.toList),.int .i64 (zG s.data.toList)])/\Below w.heap.size w w':=by
 by_cases h1:s.size<1
 ·exact Fg s w h1
 by_cases h2:13<s.size
 ·exact FL s w hs h2
 cases h3:s.data.toList.all fH with
 | false=>exact Ci s w (by omega) (by omega) h3
 | true=>
  by_cases h4:1<s.size/\s.data.toList.head? = some 48
  ·exact FH s w h4.1 (by omega) h3 h4.2
  ·exact FN s w (by omega) (by omega) h3 h4
theorem xC (n:Int):(!decide (n=iH n))=!bC n:=by
 unfold bC iH
 split
 ·rw [aCi];simp;omega
 ·split
  ·rw [aCi];simp;omega
  ·rw [aCi];simp;omega
theorem Jr (n:Int) (w) (h0:-9223372036854775808<=n) (h1:n<=9223372036854775807):cT 151 [zi n] w fun v _=>v=.bool (!bC n):=by
 refine aJ (args:=[zi n]) func151 rfl ntmps151 (aA1 rfl) (rg (bU (nx (rg (aN (zi n) rfl (aN (zi n) rfl (cE GU (a1 rfl) (AQ (gL n _ h0 h1)) ?_)))))))
 rintro _ w1 k1 rfl
 refine sq (gC rfl rfl) (aW (.bool (!decide ((n:Int)=(iH n:Int)))) rfl (nx (aE ?_)))
 refine bT (R:=fun v _=>v=.bool (!bC n)) rfl k1 (aD6 (b:=(.bool (!decide ((n:Int)=(iH n:Int))):Value)) rfl ?_)
 rw [xC]
theorem IQ (n:Int) (w) (h0:-9223372036854775808<=n) (h1:n<=9223372036854775807):cT 167 [zi n] w fun v _=>v=.bool (!bC n):=by
 refine aJ (args:=[zi n]) func167 rfl ntmps167 (aA1 rfl) (rg (bU (nx (rg (aN (zi n) rfl (aN (zi n) rfl (cE GU (a1 rfl) (AQ (gL n _ h0 h1)) ?_)))))))
 rintro _ w1 k1 rfl
 refine sq (gC rfl rfl) (aW (.bool (!decide ((n:Int)=(iH n:Int)))) rfl (nx (aE ?_)))
 refine bT (R:=fun v _=>v=.bool (!bC n)) rfl k1 (aD6 (b:=(.bool (!decide ((n:Int)=(iH n:Int))):Value)) rfl ?_)
 rw [xC]
theorem Il (n:Int) (w) (h0:-9223372036854775808<=n) (h1:n<=9223372036854775807):cT 168 [zi n] w fun v _=>v=.bool (!bC n):=by
 refine aJ (args:=[zi n]) func168 rfl ntmps168 (aA1 rfl) (rg (bU (nx (rg (aN (zi n) rfl (aN (zi n) rfl (cE GU (a1 rfl) (AQ (gL n _ h0 h1)) ?_)))))))
 rintro _ w1 k1 rfl
 refine sq (gC rfl rfl) (aW (.bool (!decide ((n:Int)=(iH n:Int)))) rfl (nx (aE ?_)))
 refine bT (R:=fun v _=>v=.bool (!bC n)) rfl k1 (aD6 (b:=(.bool (!decide ((n:Int)=(iH n:Int))):Value)) rfl ?_)
 rw [xC]
theorem Jb (n:Int) (w) (h0:-9223372036854775808<=n) (h1:n<=9223372036854775807):cT 212 [zi n] w fun v _=>v=.bool (!bC n):=by
 refine aJ (args:=[zi n]) func212 rfl ntmps212 (aA1 rfl) (rg (bU (nx (rg (aN (zi n) rfl (aN (zi n) rfl (cE GU (a1 rfl) (AQ (gL n _ h0 h1)) ?_)))))))
 rintro _ w1 k1 rfl
 refine sq (gC rfl rfl) (aW (.bool (!decide ((n:Int)=(iH n:Int)))) rfl (nx (aE ?_)))
 refine bT (R:=fun v _=>v=.bool (!bC n)) rfl k1 (aD6 (b:=(.bool (!decide ((n:Int)=(iH n:Int))):Value)) rfl ?_)
 rw [xC]
def gG {α:Type} (p:α->Bool) (l:List α):Int:=if l.any p then (l.findIdx p:Int) else -1
theorem rH {α:Type} {p:α->Bool} {l:List α} (hk:k<l.length) (h:(l.take k).any p=false) (h2:p l[k]=false):(l.take (k+1)).any p=false:=by
 rw [aAr hk,List.any_append,h];simpa using h2
theorem mR {α:Type} {p:α->Bool} {l:List α} (h:l.any p=false):gG p l=-1:=by unfold gG;rw [h];rfl
theorem lP {α:Type} {p:α->Bool} {l:List α} (hk:k<l.length) (h:(l.take k).any p=false) (h2:p l[k]=true):gG p l=(k:Int):=by
 have ha:l.any p=true:=aCc.2 ⟨_,aBz hk,h2⟩
 unfold gG
 rw [ha,aEc rfl]
 have:l.findIdx p=k:=(List.findIdx_eq hk).2 ⟨h2,fun j hj=>by
  have:=List.any_eq_false.1 h l[j] (by rw [List.mem_take_iff_getElem];exact ⟨j,by omega,rfl⟩)
  simpa using this⟩
 rw [this]
theorem tU (l:List Int):(!l.any fun n=>!bC n)=l.all bC:=by
 induction l with
 | nil=>rfl
 | cons x r ih=>rw [List.any_cons,aC1,<- ih];cases bC x <;> simp
theorem Af {α:Type} (p:α->Bool) (l:List α):decide ((0:Int)<=(gG p l:Int))=l.any p:=by
 unfold gG
 cases h:l.any p
 ·rfl
 ·simp
def gI (x:Int):List Value:=[zi x]
theorem jR (x:Int):(gI x).length=1:=rfl
theorem fM {α:Type} (f:α->List Value) (k:Nat) (hk:∀ x,(f x).length=k):∀ (l:List α),(l.flatMap f).length=l.length*k
 | []=>by simp
 | y::r=>by rw [aBu,aBh,fM f k hk r,hk,aB3,aDn];omega
theorem Lm (f) (caps:List Value) (p:Int->Bool) (b) (c) (l:List Int) (w) (ef:EN f) (hN:l.length<9223372036854775807) (hv:Rd 1 w (.slice b l.length c) l.length c (l.flatMap gI)) (hp:∀ W x,Below w.heap.size w W->x∈l->cT f ([zi x]++caps) W fun v _=>v=.bool (p x)):cT 201 [.slice b l.length c,.func (.func f) #[] caps.toArray] w fun v _=>v=zi (gG p l):=by
 refine aJ (args:=[.slice b l.length c,.func (.func f) #[] caps.toArray]) func201 rfl ntmps201 (aA1 rfl) (rg (bU (nx (aF (rg (aN (.slice b l.length c) rfl (sq (aY underlying39 rfl) (rU (nx ?_)))))))))
 refine bD (fun k g W=>g 8=zi ((k:Nat):Int)/\g 7=zi (((l.length:Nat)):Int)/\g 0=.slice b l.length c/\g 1=.func (.func f) #[] (caps).toArray/\g 4=zi (0)/\Below w.heap.size w W/\((l.take k).any p=false)) l.length hN (fun _ _ _ h=>⟨h.1,h.2.1⟩) ⟨rfl,rfl,rfl,rfl,rfl,aDt _ _,rfl⟩ rfl rfl (fun _ _ _ _ h=>h) ?_ ?_
 ·
  rintro k g1 w1 hk ⟨s8,s7,s0,s1,s4,b1,hP⟩
  obtain ⟨g,o,rfl,hg,hr⟩:=aD5 hv (aBg (aDm _) hk)
  refine rg (bI s8 (aW (zi (k:Nat)) rfl (nx (rg (bI s1 (bI s0 (aN (zi (k:Nat)) rfl (sq (bB underlying39 sizeOf2 rfl rfl hk) (sq (cZ rfl (cQ gI 1 jR hr hg b1 hk 0 _ rfl)) (RC (caps:=caps) ef rfl (ac (a1 rfl)) (hp _ _ b1 (aBz hk)) ?_))))))))))
  rintro _ w2 k2 rfl
  have b3:=aDu b1 k2
  refine nx ?_
  refine cd rfl (fun c4=>?_) (fun c4=>?_)
  ·
   refine rg (aN (zi (k:Nat)) rfl (aW (zi (k:Nat)) rfl (nx (aE ?_))))
   refine bT (R:=fun v _=>v=zi (gG p l)) rfl b3 (aD6 (b:=(zi (k:Nat):Value)) rfl ?_)
   rw [lP hk hP c4]
  ·
   exact aG (dO ⟨⟨rfl,s7,s0,s1,s4,b3,rH hk hP c4⟩,s8⟩)
 ·
  rintro g5 w5 ⟨s8,s7,s0,s1,s4,b5,hP⟩
  refine rg (aW (zi (-1)) rfl (nx (aE ?_)))
  refine bT (R:=fun v _=>v=zi (gG p l)) rfl b5 (aD6 (b:=(zi (-1):Value)) rfl ?_)
  rw [mR (by rw [<- aCb (l:=l)];exact hP)]
theorem yW (f) (caps:List Value) (p:Int->Bool) (b) (c) (l:List Int) (w) (ef:EN f) (hN:l.length<9223372036854775807) (hv:Rd 1 w (.slice b l.length c) l.length c (l.flatMap gI)) (hp:∀ W x,Below w.heap.size w W->x∈l->cT f ([zi x]++caps) W fun v _=>v=.bool (p x)):cT 150 [.slice b l.length c,.func (.func f) #[] caps.toArray] w fun v _=>v=.bool (l.any p):=by
 refine aJ (args:=[.slice b l.length c,.func (.func f) #[] caps.toArray]) func150 rfl ntmps150 (aA1 rfl) (rg (bU (nx (rg (aN (.slice b l.length c) rfl (aN (.func (.func f) #[] (caps).toArray) rfl (cE en201 (a2 rfl rfl) (Lm f caps p b c l _ ef hN (hv.below (aDt _ _)) (fun W x hW hx=>hp W x (aDu (aDt _ _) hW) hx)) ?_)))))))
 rintro _ w1 k1 rfl
 refine sq (nU rfl rfl) (aW (.bool (decide ((0:Int)<=(gG p l:Int)))) rfl (nx (aE ?_)))
 refine bT (R:=fun v _=>v=.bool (l.any p)) rfl k1 (aD6 (b:=(.bool (decide ((0:Int)<=(gG p l:Int))):Value)) rfl ?_)
 rw [Af]
theorem Ng (b) (c) (l:List Int) (w) (hN:l.length<9223372036854775807) (hv:Rd 1 w (.slice b l.length c) l.length c (l.flatMap gI)) (hl:∀ x∈l,-9223372036854775808<=x/\x<=9223372036854775807):cT 101 [.slice b l.length c] w fun v _=>v=.bool (l.all bC):=by
 refine aJ (args:=[.slice b l.length c]) func101 rfl ntmps101 (aA1 rfl) (rg (bU (nx (rg (aN (.slice b l.length c) rfl (cE FG (a2 rfl rfl) (yW 151 [] (fun n=>!bC n) b c l _ en151 hN (hv.below (aDt _ _)) (fun W x _ hx=>Jr x W (hl x hx).1 (hl x hx).2)) ?_))))))
 rintro _ w1 k1 rfl
 refine sq (cJ rfl) (aW (.bool (!(l.any fun n=>!bC n))) rfl (nx (aE ?_)))
 refine bT (R:=fun v _=>v=.bool (l.all bC)) rfl k1 (aD6 (b:=(.bool (!(l.any fun n=>!bC n)):Value)) rfl ?_)
 rw [tU]
theorem Mz (b) (c) (l:List Int) (w) (hN:l.length<9223372036854775807) (hv:Rd 1 w (.slice b l.length c) l.length c (l.flatMap gI)) (hl:∀ x∈l,-9223372036854775808<=x/\x<=9223372036854775807):cT 111 [.slice b l.length c] w fun v _=>v=.bool (l.all bC):=by
 refine aJ (args:=[.slice b l.length c]) func111 rfl ntmps111 (aA1 rfl) (rg (bU (nx (rg (aN (.slice b l.length c) rfl (cE FG (a2 rfl rfl) (yW 167 [] (fun n=>!bC n) b c l _ YY hN (hv.below (aDt _ _)) (fun W x _ hx=>IQ x W (hl x hx).1 (hl x hx).2)) ?_))))))
 rintro _ w1 k1 rfl
 refine sq (cJ rfl) (aW (.bool (!(l.any fun n=>!bC n))) rfl (nx (aE ?_)))
 refine bT (R:=fun v _=>v=.bool (l.all bC)) rfl k1 (aD6 (b:=(.bool (!(l.any fun n=>!bC n)):Value)) rfl ?_)
 rw [tU]
theorem LQ (b) (c) (l:List Int) (w) (hN:l.length<9223372036854775807) (hv:Rd 1 w (.slice b l.length c) l.length c (l.flatMap gI)) (hl:∀ x∈l,-9223372036854775808<=x/\x<=9223372036854775807):cT 113 [.slice b l.length c] w fun v _=>v=.bool (l.all bC):=by
 refine aJ (args:=[.slice b l.length c]) func113 rfl ntmps113 (aA1 rfl) (rg (bU (nx (rg (aN (.slice b l.length c) rfl (cE FG (a2 rfl rfl) (yW 168 [] (fun n=>!bC n) b c l _ en168 hN (hv.below (aDt _ _)) (fun W x _ hx=>Il x W (hl x hx).1 (hl x hx).2)) ?_))))))
 rintro _ w1 k1 rfl
 refine sq (cJ rfl) (aW (.bool (!(l.any fun n=>!bC n))) rfl (nx (aE ?_)))
 refine bT (R:=fun v _=>v=.bool (l.all bC)) rfl k1 (aD6 (b:=(.bool (!(l.any fun n=>!bC n)):Value)) rfl ?_)
 rw [tU]
theorem MX (b) (c) (l:List Int) (w) (hN:l.length<9223372036854775807) (hv:Rd 1 w (.slice b l.length c) l.length c (l.flatMap gI)) (hl:∀ x∈l,-9223372036854775808<=x/\x<=9223372036854775807):cT 165 [.slice b l.length c] w fun v _=>v=.bool (l.all bC):=by
 refine aJ (args:=[.slice b l.length c]) func165 rfl ntmps165 (aA1 rfl) (rg (bU (nx (rg (aN (.slice b l.length c) rfl (cE FG (a2 rfl rfl) (yW 212 [] (fun n=>!bC n) b c l _ Zb hN (hv.below (aDt _ _)) (fun W x _ hx=>Jb x W (hl x hx).1 (hl x hx).2)) ?_))))))
 rintro _ w1 k1 rfl
 refine sq (cJ rfl) (aW (.bool (!(l.any fun n=>!bC n))) rfl (nx (aE ?_)))
 refine bT (R:=fun v _=>v=.bool (l.all bC)) rfl k1 (aD6 (b:=(.bool (!(l.any fun n=>!bC n)):Value)) rfl ?_)
 rw [tU]
theorem Hx {l:List Int} (hv:Rd 1 w v n c (l.flatMap gI)) (hN:l.length<9223372036854775807) (hl:∀ x∈l,-9223372036854775808<=x/\x<=9223372036854775807):cT 101 [v] w fun u _=>u=.bool (l.all bC):=by
 obtain ⟨b,rfl⟩:=hv.form
 have hn:n=l.length:=by
  have:=hv.1
  have h2:=fM gI 1 jR l
  omega
 subst hn
 exact Ng b c l w hN hv hl
theorem Is {l:List Int} (hv:Rd 1 w v n c (l.flatMap gI)) (hN:l.length<9223372036854775807) (hl:∀ x∈l,-9223372036854775808<=x/\x<=9223372036854775807):cT 111 [v] w fun u _=>u=.bool (l.all bC):=by
 obtain ⟨b,rfl⟩:=hv.form
 have hn:n=l.length:=by
  have:=hv.1
  have h2:=fM gI 1 jR l
  omega
 subst hn
 exact Mz b c l w hN hv hl
theorem wM {l:List Int} (hv:Rd 1 w v n c (l.flatMap gI)) (hN:l.length<9223372036854775807) (hl:∀ x∈l,-9223372036854775808<=x/\x<=9223372036854775807):cT 113 [v] w fun u _=>u=.bool (l.all bC):=by
 obtain ⟨b,rfl⟩:=hv.form
 have hn:n=l.length:=by
  have:=hv.1
  have h2:=fM gI 1 jR l
  omega
 subst hn
 exact LQ b c l w hN hv hl
theorem JA {l:List Int} (hv:Rd 1 w v n c (l.flatMap gI)) (hN:l.length<9223372036854775807) (hl:∀ x∈l,-9223372036854775808<=x/\x<=9223372036854775807):cT 165 [v] w fun u _=>u=.bool (l.all bC):=by
 obtain ⟨b,rfl⟩:=hv.form
 have hn:n=l.length:=by
  have:=hv.1
  have h2:=fM gI 1 jR l
  omega
 subst hn
 exact MX b c l w hN hv hl
theorem m1 {a:Int} {P:Int->Prop} (h:P a):∀ x∈[a],P x:=fun x hx=>by simp at hx;subst hx;exact h
theorem m3 {a b c:Int} {P:Int->Prop} (h:P a) (h2:P b) (h3:P c):∀ x∈[a,b,c],P x:=fun x hx=>by
 simp at hx;rcases hx with rfl | rfl | rfl
 ·exact h
 ·exact h2
 ·exact h3
def Wr (wb:Nat) (L:List UInt8) (w:World):Prop:=∃ b c,Bk wb [.slice b L.length c] 150 w/\Rd 1 w (.slice b L.length c) L.length c (bv L)
def uL (wb:Nat) (f:FuncId) (args:List Value) (L L':List UInt8) (w:World):Prop:=jP (·=wb) f args w fun _ W=>Wr wb L' W
theorem kP (h:Calls prog f args.toArray w (kR w R)):cT f args w fun v W=>∃ b,v=.slice b R.length R.length/\Rd 1 W (.slice b R.length R.length) R.length R.length (bv R)/\∀ k,(Value.slice b R.length R.length).ownBlock=some k->w.heap.size<=k:=by
 refine h.mono ?_
 rintro e w' ⟨b,n,rfl,h2,h3,h4⟩
 have hn:n=R.length:=by have:=h2.1;rw [zH] at this;omega
 subst hn
 exact ⟨_,rfl,h4,b,rfl,h2,h3⟩
section
variable {r:Option Nat} {n:Nat} {ds:List Deferred} {g:Nat->Value} {w:World} {Q:Exit->Act->World->Prop} {l:List Oper} {ops:Array Oper} {ty:TypeId} {pos:String} {aft:Array Edge} {x:Operand}
theorem clF {xs:List Operand} {R:Ending->World->Prop} (hf:EN f) (hx:ev n g x=.func (.func f) fst.toArray caps.toArray)
  (hc:Calls prog f args.toArray w R) (ha:args=fst++xs.map (ev n g)++caps) (h:∀ e w',R e w'->∃ v,e=.returned v/\dY r ops Q l ((fr n ds g).put dd v) w'):
  dY r ops Q (⟨dd,.call ⟨.value x,xs.toArray,ts⟩,ty,pos,aft,none⟩::l) (fr n ds g) w:=by
 refine eM rfl fun K hK=>?_
 have hr:(execOp (ev n g) ⟨dd,.call ⟨.value x,xs.toArray,ts⟩,ty,pos,aft,none⟩).run prog w=.ok (.enter f args.toArray) w:=by
  unfold execOp
  simp [resolve,hx,Deferred.ofValue,invoke,hf,ha]
 refine sM (by rw [bV];exact hr) (hc.mono fun e w' hR=>?_)
 obtain ⟨v,rfl,hw⟩:=h e w' hR
 exact hK _ _ hw
theorem rN {xs:List Operand} (hf:EN f) (hx:ev n g x=.func (.func f) fst.toArray caps.toArray)
  (ha:args=fst++xs.map (ev n g)++caps) (hc:uL wb f args L L' w) (h:∀ v w',KM (·=wb) w w'->Wr wb L' w'->dY r ops Q l (fr n ds (up g d v)) w'):
  dY r ops Q (⟨some d,.call ⟨.value x,xs.toArray,ts⟩,ty,pos,aft,none⟩::l) (fr n ds g) w:=
 clF hf hx hc ha fun _ _ ⟨v,e,hb,hr⟩=>⟨v,e,by rw [fF];exact h v _ hb hr⟩
theorem tX (h:ev n g x=a):aL n g ⟨dd,.makeFunc (.func f) #[x] #[],ty,pos,aft,gd⟩ w (.func (.func f) [a].toArray ([]:List Value).toArray):=by
 unfold aL execOp
 simp [h, go_sem]
end
theorem Wr.below (h:Wr wb L w) (k:Below w.heap.size w w'):Wr wb L w':=by
 obtain ⟨b,c,h1,h2⟩:=h;exact ⟨b,c,h1.below k,h2.below k⟩
theorem dZ {g:Nat->Value} {xs:List Operand} (h:args=xs.map (ev n g)):args++caps=[]++xs.map (ev n g)++caps:=by rw [h];rfl
theorem CT {g:Nat->Value} {xs:List Operand} (h:args=xs.map (ev n g)):fst++args++caps=fst++xs.map (ev n g)++caps:=by rw [h]
theorem NA (E:List UInt8) (l:List Int):(E++aR (l.map cB)).length<=E.length+11*l.length:=by
 rw [aBh];have:=lJ (l.map cB);rw [aCj] at this;omega
theorem Mh (E:List UInt8) (l:List Bool):(E++aR (l.map eH)).length<=E.length+11*l.length:=by
 rw [aBh];have:=lJ (l.map eH);rw [aCj] at this;omega
theorem cR (E:List UInt8) (l:List Int) (m:Nat) (h:l.length=m):(E++aR (l.map cB)).length<=E.length+11*m:=h ▸ NA E l
theorem fE (E:List UInt8) (l:List Bool) (m:Nat) (h:l.length=m):(E++aR (l.map eH)).length<=E.length+11*m:=h ▸ Mh E l
theorem BW (E:List UInt8) (s):(E++cD [s]).length<=E.length+(11+s.size):=by
 rw [aBh,Ai,Hl,aBh]
 have:(JD s.size).length<=11:=yJ 10 s.size
 have h2:s.data.toList.length=s.size:=by simp
 omega
theorem Wr.lt (h:Wr wb L w):wb<w.heap.size:=by
 obtain ⟨b,c,h1,h2⟩:=h;exact h1.lt
def gB (M:Nat->Prop) (f:FuncId) (args:List Value) (w:World) (R:Value->World->Prop) (P:List PanicEntry->World->Prop):Prop:=
 Calls prog f args.toArray w fun e w'=>KM M w w'/\((∃ v,e=.returned v/\R v w')\/(∃ c,e=.panicked c/\P c w'))
theorem gB.mono {M:Nat->Prop} {R R':Value->World->Prop} {P P':List PanicEntry->World->Prop} (h:gB M f args w R P) (k:∀ v w',KM M w w'->R v w'->R' v w') (kp:∀ c w',KM M w w'->P c w'->P' c w'):gB M f args w R' P':=
 aDx h fun e w' ⟨hk,h1⟩=>⟨hk,h1.imp (fun ⟨v,e,hr⟩=>⟨v,e,k v w' hk hr⟩) (fun ⟨c,e,hp⟩=>⟨c,e,kp c w' hk hp⟩)⟩
section
variable {r:Option Nat} {n:Nat} {ds:List Deferred} {g:Nat->Value} {w:World} {Q:Exit->Act->World->Prop} {l:List Oper} {ops:Array Oper} {ty:TypeId} {pos:String} {aft:Array Edge} {x y:Operand} {d:Tmp}
theorem clP0 {M:Nat->Prop} {xs:List Operand} {R:Value->World->Prop} {P:List PanicEntry->World->Prop} (hf:EN f) (hx:ev n g x=.func (.func f) fst.toArray caps.toArray)
  (ha:args=fst++xs.map (ev n g)++caps) (hc:gB M f args w R P) (hp:∀ c w',KM M w w'->P c w'->Q (.panic c) (fr n ds g) w') (h:∀ v w',KM M w w'->R v w'->dY r ops Q l ((fr n ds g).put dd v) w'):
  dY r ops Q (⟨dd,.call ⟨.value x,xs.toArray,ts⟩,ty,pos,aft,none⟩::l) (fr n ds g) w:=by
 refine eM rfl fun K hK=>?_
 have hr:(execOp (ev n g) ⟨dd,.call ⟨.value x,xs.toArray,ts⟩,ty,pos,aft,none⟩).run prog w=.ok (.enter f args.toArray) w:=by
  unfold execOp
  simp [resolve,hx,Deferred.ofValue,invoke,hf,ha]
 refine sM (by rw [bV];exact hr) (aDx hc fun e w' ⟨hk,hR⟩=>?_)
 rcases hR with ⟨v,rfl,hv⟩ | ⟨c,rfl,hv⟩
 ·exact hK _ _ (h v w' hk hv)
 ·exact hp c w' hk hv
theorem vY {M:Nat->Prop} {xs:List Operand} {R:Value->World->Prop} {P:List PanicEntry->World->Prop} (hf:EN f) (hx:ev n g x=.func (.func f) fst.toArray caps.toArray)
  (ha:args=fst++xs.map (ev n g)++caps) (hc:gB M f args w R P) (hp:∀ c w',KM M w w'->P c w'->Q (.panic c) (fr n ds g) w') (h:∀ v w',KM M w w'->R v w'->dY r ops Q l (fr n ds (up g d v)) w'):
  dY r ops Q (⟨some d,.call ⟨.value x,xs.toArray,ts⟩,ty,pos,aft,none⟩::l) (fr n ds g) w:=
 clP0 hf hx ha hc hp fun v w' hk hv=>by rw [fF];exact h v w' hk hv
end
def CW (T:World->World->Prop) (P:Value->World->Prop):Prop:=∀ v (a b:World),P v a->T a b->P v b
def WQ (T:World->World->Prop):List (Value->World->Prop)->Prop
 | []=>True
 | P::r=>CW T P/\WQ T r
theorem aC {T:World->World->Prop}:CW T (vE t):=fun _ _ _ h _=>h
theorem fI {T:World->World->Prop} {P:Value->Prop}:CW T (fun v _=>P v):=fun _ _ _ h _=>h
theorem KT {T:World->World->Prop}:∀ {V:List (Value->World->Prop)},WQ T V->∀ i v (a b:World),kH V i v a->T a b->kH V i v b
 | [],_,i,v,a,b,hv,_=>by unfold kH at *;simpa using hv
 | P::r,⟨h1,h2⟩,0,v,a,b,hv,hb=>h1 v a b hv hb
 | P::r,⟨h1,h2⟩,i+1,v,a,b,hv,hb=>KT h2 i v a b hv hb
def stn (L:List (World->Prop)) (k:Nat) (w:World):Prop:=(L.getD k fun _=>True) w
theorem eE {V:List (Value->World->Prop)} {M:Nat->Prop} {ch:List Nat} {L:List (World->Prop)} (h1:iS (qL l)=true) (h2:WQ (KM M) V) (h3:iS ch=true) (h4:ch.all (fun i=>decide (i<l.length))=true) (h5:qX l ch=true)
  (h6:∀ P∈L,∀ a b:World,P a->Below a.heap.size a b->P b):cW l (KM M) V ch (stn L) where
 dst:=h1
 chn:=h3
 chl:=h4
 chain:=h5
 tr:=fun h k=>h.trans k
 ofB:=fun h=>aDr h
 vT:=fun i v a b hv hb=>KT h2 i v a b hv (hb.elim (fun h=>aDr h) (·.1))
 sB:=fun k a b ha hb=>by
  unfold stn at *
  by_cases hk:k<L.length
  ·rw [List.getD_eq_getElem?_getD,List.getElem?_eq_getElem hk,Option.getD_some] at *
   exact h6 _ (aBz hk) _ _ ha hb
  ·rw [List.getD_eq_getElem?_getD,List.getElem?_eq_none (by omega)];trivial
theorem yS {T:World->World->Prop} {V:List (Value->World->Prop)} {St:Nat->World->Prop} {g g0:Nat->Value} (h:uM l T V m St g0 w0 g w'):∀ {js:List (Nat × Nat)},Fs l js=true->Fy V g w' js
 | [],_=>trivial
 | p::r,hj=>by
  unfold Fs at hj
  simp only [aC1,aB0] at hj
  refine ⟨?_,yS h (js:=r) hj.2⟩
  have h1:=hj.1
  cases ho:l[p.1]? with
  | none=>rw [ho] at h1;simp at h1
  | some o=>
   rw [ho] at h1
   have h1:o.dst=some p.2:=by simpa using h1
   exact h.2.1 p.1 o p.2 ho h1
theorem yA {T:World->World->Prop} {V:List (Value->World->Prop)} {St:Nat->World->Prop} {g g0:Nat->Value} (h:uM l T V m St g0 w0 g w'):∀ {ss:List Nat},ss.all (dB l)=true->lI g0 g ss
 | [],_=>trivial
 | s::r,hs=>by
  simp only [aC1,aB0] at hs
  exact ⟨h.2.2.1 s hs.1,yA h hs.2⟩
section
variable {r:Option Nat} {n:Nat} {ds:List Deferred} {g:Nat->Value} {w:World} {Q:Exit->Act->World->Prop} {l L:List Oper} {o:Oper} {y:Code} {id:Nat} {V:List (Value->World->Prop)} {T:World->World->Prop} {ch:List Nat} {St:Nat->World->Prop} {Pn:List PanicEntry->World->Prop}
theorem YD (Pn:List PanicEntry->World->Prop) (S:cW l T V ch St) (js:List (Nat × Nat)) (ss:List Nat) (he:Region.earlier .any l.toArray=true) (hjs:Fs l js=true) (hss:ss.all (dB l)=true) (h0:St 0 w) (hpan:∀ c g w,Pn c w->Q (.panic c) (fr n ds g) w)
  (hO:cW l T V ch St->gA (gE n l T V ch St Pn g w) 0 l) (h:∀ g' w',T w w'->Fy V g' w' js->lI g g' ss->St ch.length w'->Q .normal (fr n ds g') w'):Wp r (Code.region id l.toArray true) Q (fr n ds g) w:=
 rqD S he h0 (hO S) hpan fun g' w' hE=>h g' w' hE.1 (yS hE hjs) (yA hE hss) hE.2.2.2
theorem CP (Pn:List PanicEntry->World->Prop) (S:cW l T V ch St) (js:List (Nat × Nat)) (ss:List Nat) (he:Region.earlier .any l.toArray=true) (hjs:Fs l js=true) (hss:ss.all (dB l)=true) (h0:St 0 w) (hpan:∀ c g w,Pn c w->Exit.then (Wp r y Q) Q (.panic c) (fr n ds g) w)
  (hO:cW l T V ch St->gA (gE n l T V ch St Pn g w) 0 l) (h:∀ g' w',T w w'->Fy V g' w' js->lI g g' ss->St ch.length w'->Wp r y Q (fr n ds g') w'):Wp r ((Code.region id l.toArray true).seq y) Q (fr n ds g) w:=
 aF (YD Pn S js ss he hjs hss h0 hpan hO h)
theorem eDXG (Pn:List PanicEntry->World->Prop) (S:cW l T V ch St) (js:List (Nat × Nat)) (ss:List Nat) (he:Region.earlier .any l.toArray=true) (hjs:Fs l js=true) (hss:ss.all (dB l)=true) (h0:St 0 w) (hpan:∀ c g' w,(∀ s,dB l s=true->g' s=g s)->Pn c w->Q (.panic c) (fr n ds g') w)
  (hO:cW l T V ch St->gA (gE n l T V ch St Pn g w) 0 l) (h:∀ g' w',T w w'->Fy V g' w' js->lI g g' ss->St ch.length w'->Q .normal (fr n ds g') w'):Wp r (Code.region id l.toArray true) Q (fr n ds g) w:=
 rqDG S he h0 (hO S) hpan fun g' w' hE=>h g' w' hE.1 (yS hE hjs) (yA hE hss) hE.2.2.2
theorem sDXG (Pn:List PanicEntry->World->Prop) (S:cW l T V ch St) (js:List (Nat × Nat)) (ss:List Nat) (he:Region.earlier .any l.toArray=true) (hjs:Fs l js=true) (hss:ss.all (dB l)=true) (h0:St 0 w) (hpan:∀ c g' w,(∀ s,dB l s=true->g' s=g s)->Pn c w->Exit.then (Wp r y Q) Q (.panic c) (fr n ds g') w)
  (hO:cW l T V ch St->gA (gE n l T V ch St Pn g w) 0 l) (h:∀ g' w',T w w'->Fy V g' w' js->lI g g' ss->St ch.length w'->Wp r y Q (fr n ds g') w'):Wp r ((Code.region id l.toArray true).seq y) Q (fr n ds g) w:=
 aF (eDXG Pn S js ss he hjs hss h0 hpan hO h)
theorem ZX (m) (Pn:List PanicEntry->World->Prop) (S:cW (L.take m) T V ch St) (js:List (Nat × Nat)) (ss:List Nat) (hL:L=L.take m++[o]) (he:Region.earlier .any L.toArray=true) (hgd:iQ (L.take m)=true) (hdep:wT (L.take m) o=true) (hog:o.guard=none)
  (hjs:Fs (L.take m) js=true) (hss:ss.all (dB (L.take m))=true) (h0:St 0 w) (hpan:∀ c g w,Pn c w->Q (.panic c) (fr n ds g) w)
  (hO:cW (L.take m) T V ch St->gA (gE n (L.take m) T V ch St Pn g w) 0 (L.take m))
  (h:∀ g' w',T w w'->Fy V g' w' js->lI g g' ss->St ch.length w'->∀ K:Act->World->Prop,(∀ a w,Q .normal a w->K a w)->Ow r o (fr n ds g') w' K Q):Wp r (Code.region id L.toArray true) Q (fr n ds g) w:=by
 have:=Zp (r:=r) (n:=n) (ds:=ds) (Q:=Q) (g:=g) (w:=w) (id:=id) (Pn:=Pn) (l:=L.take m) (o:=o) S (by rw [<- hL];exact he) hgd hdep hog h0 (hO S) hpan fun g' w' hE=>h g' w' hE.1 (yS hE hjs) (yA hE hss) hE.2.2.2
 rwa [<- hL] at this
theorem EY (m) (Pn:List PanicEntry->World->Prop) (S:cW (L.take m) T V ch St) (js:List (Nat × Nat)) (ss:List Nat) (hL:L=L.take m++[o]) (he:Region.earlier .any L.toArray=true) (hgd:iQ (L.take m)=true) (hdep:wT (L.take m) o=true) (hog:o.guard=none)
  (hjs:Fs (L.take m) js=true) (hss:ss.all (dB (L.take m))=true) (h0:St 0 w) (hpan:∀ c g w,Pn c w->Exit.then (Wp r y Q) Q (.panic c) (fr n ds g) w)
  (hO:cW (L.take m) T V ch St->gA (gE n (L.take m) T V ch St Pn g w) 0 (L.take m))
  (h:∀ g' w',T w w'->Fy V g' w' js->lI g g' ss->St ch.length w'->∀ K:Act->World->Prop,(∀ a w,Wp r y Q a w->K a w)->Ow r o (fr n ds g') w' K (Exit.then (Wp r y Q) Q)):Wp r ((Code.region id L.toArray true).seq y) Q (fr n ds g) w:=
 aF (ZX m Pn S js ss hL he hgd hdep hog hjs hss h0 hpan hO h)
variable {x y':Operand} {ty:TypeId} {pos:String} {aft:Array Edge} {gd:Option (Nat × Bool)} {R':Value->World->Prop}
theorem mZ {M:Nat->Prop} {xs:List Operand} {R:Value->World->Prop} {P:List PanicEntry->World->Prop} (hx:ev n g x=.func (.func f) fst.toArray caps.toArray) (ha:args=fst++xs.map (ev n g)++caps)
  (hf:EN f) (hc:gB M f args w R P) (hR:∀ v w',KM M w w'->R v w'->R' v w') (hP:∀ c w',KM M w w'->P c w'->Pn c w'):tV n g ⟨dd,.call ⟨.value x,xs.toArray,ts⟩,ty,pos,aft,gd⟩ w Pn R':=by
 refine .inr (.inl ⟨f,args.toArray,?_,aDx hc fun e w' ⟨hk,h1⟩=>h1.imp (fun ⟨v,e,hv⟩=>⟨v,e,hR v w' hk hv⟩) (fun ⟨c,e,hv⟩=>⟨c,e,hP c w' hk hv⟩)⟩)
 unfold execOp
 simp [resolve,hx,Deferred.ofValue,invoke,hf,ha]
theorem BR (hB:Bk b cs td w) (hs:∀ w,(sizeOf t).run prog w=.ok 1 w) (hx:ev n g x=pt b j) (hy:ev n g y'=v) (h1:v.oneCell'=true) (hj:Nat.blt j cs.length=true)
  (h:∀ w',Bk b (cs.set j v) td w'->aS b w w'->w'.heap.size=w.heap.size->R' undef w'):tV n g ⟨none,.store t x y',ty,pos,aft,gd⟩ w Pn R':=by
 have hj':j<cs.length:=by rw [aDw] at hj;exact hj
 have hc:w.cell? ⟨b,j,none⟩=some cs[j]:=hB.cell j (List.getElem?_eq_getElem hj')
 have hvc:v.cells=#[v]:=by cases v <;> simp_all [Value.oneCell',Value.cells]
 refine .inr (.inr ⟨w.setCell ⟨b,j,none⟩ v,?_,h _ (hB.set j v) (aS.setCell (aS.refl b w) j v) (by simp [World.setCell])⟩)
 unfold execOp
 simp only [hx,hy,Instr.storeAt,Instr.sureAddr,storeVar,aDe,hs,aBw,aDh,hvc]
 simp [storeCells,run_store prog w _ _ _ h1,aCy,hc,hB.frozen j]
end
section
open Go.Proofs.Tryz
open Go.RowKit Go.Maps Go.WideMaps
def Pw:List (List UInt8 × Int):=[([],1),([75,66],1000),([77,66],1000000),([71,66],1000000000),([84,66],1000000000000),([75,105,66],1024),([77,105,66],1048576),([71,105,66],1073741824),([84,105,66],1099511627776)]
def wR (u:List UInt8):Int:=match Pw.find? (fun p=>p.1 == u) with | some p=>p.2 | none=>0
def NC {H:Type}:DataW H:=.map [(.string [71,66],.lit (.int .i64 1000000000)),(.string [71,105,66],.lit (.int .i64 1073741824)),(.string [75,66],.lit (.int .i64 1000)),(.string [75,105,66],.lit (.int .i64 1024)),(.string [77,66],.lit (.int .i64 1000000)),(.string [77,105,66],.lit (.int .i64 1048576)),(.string [84,66],.lit (.int .i64 1000000000000)),(.string [84,105,66],.lit (.int .i64 1099511627776))]
theorem Te (u) (hu:u≠[]):(NC:DataW Unit).atKey (.string u) (.lit (.int .i64 0))=.lit (.int .i64 (wR u)):=by
 have hb:∀ a:List UInt8,Lit.sameKey (.string a) (.string u)=(a == u):=fun a=>rfl
 unfold NC wR Pw
 by_cases h0:u∈[([75,66]:List UInt8),[77,66],[71,66],[84,66],[75,105,66],[77,105,66],[71,105,66],[84,105,66]]
 ·simp only [aC0,aBy,or_false] at h0
  rcases h0 with rfl | rfl | rfl | rfl | rfl | rfl | rfl | rfl <;> rfl
 ·have hne:∀ a∈[([75,66]:List UInt8),[77,66],[71,66],[84,66],[75,105,66],[77,105,66],[71,105,66],[84,105,66]],(a == u)=false:=by
   intro a ha
   rw [beq_eq_false_iff_ne]
   rintro rfl
   exact h0 ha
  simp only [aC0,aBy,or_false,forall_eq_or_imp,forall_eq] at hne
  obtain ⟨a1,a2,a3,a4,a5,a6,a7,a8⟩:=hne
  have a0:(([]:List UInt8) == u)=false:=by rw [beq_eq_false_iff_ne];exact fun h=>hu h.symm
  simp only [DataW.atKey,List.find?_cons,hb,a0,a1,a2,a3,a4,a5,a6,a7,a8,List.find?_nil]
def lA (w:World):Prop:=∃ bm n,w.cell? ⟨3,0,none⟩=some (.map (some bm))/\w.ownsMap (H:=Unit) prog 9 (plainElem prog 2) bm n NC
theorem lA.below (h:lA w) (hb:Below w.heap.size w w'):lA w':=by
 obtain ⟨bm,n,h1,es,clock,h2,h3⟩:=h
 exact ⟨bm,n,(hb.cell (World.block_lt_of_cell? w _ h1)).trans h1,es,clock,(hb.block bm (Array.getElem?_eq_some_iff.1 h2).1).trans h2,h3⟩
theorem law9: Keyed prog 9:=string_keyed underlying9
theorem Zk (w):(zeroValue 2).run prog w=.ok (.int .i64 0) w:=by kernel_rfl
theorem lA.look (h:lA w) (u) (hu:u.data.toList≠[]) (hs:u.size<=maxLen):
  ∃ bm,w.cell? ⟨3,0,none⟩=some (.map (some bm))/\(Instr.lookup 331 (.map (some bm)) (.string u) false).run prog w=.ok (.int .i64 (wR u.data.toList)) w:=by
 obtain ⟨bm,n,h1,ho⟩:=h
 obtain ⟨c,hrun,hat,_⟩:=ho.lookup_int law9 underlying331 underlying2 (Zk w) (keyOf_string_mk underlying9 hs)
 rw [Te _ hu] at hat
 cases hat
 exact ⟨bm,h1,hrun⟩
end
section
open Go.Proofs.Tryz
open Go.Lib (trimRightS)
def qJ (d u:List UInt8):Bool:=Ak d&&decide (wR u≠0)&&decide ((val d:Int)<=1099511627776 / wR u)
def qG (l:List UInt8):List UInt8:=l.takeWhile fH
def qA (l:List UInt8):List UInt8:=l.dropWhile fH
def gR (l:List UInt8):Int:=if qJ (qG l) (qA l)=true then (val (qG l):Int)*wR (qA l) else 0
def mA (l:List UInt8):Int:=if qJ (qG l) (qA l)=true then 0 else 130
theorem DA (l):qG l++qA l=l:=aAs
theorem zW (h:wR u≠0):u=[]\/(u∈[([75,66]:List UInt8),[77,66],[71,66],[84,66],[75,105,66],[77,105,66],[71,105,66],[84,105,66]]):=by
 by_cases h0:u=[]
 ·exact .inl h0
 ·refine .inr (Classical.byContradiction fun hn=>h ?_)
  have hne:∀ a∈[([75,66]:List UInt8),[77,66],[71,66],[84,66],[75,105,66],[77,105,66],[71,105,66],[84,105,66]],(a == u)=false:=by
   intro a ha
   rw [beq_eq_false_iff_ne]
   rintro rfl
   exact hn ha
  simp only [aC0,aBy,or_false,forall_eq_or_imp,forall_eq] at hne
  obtain ⟨a1,a2,a3,a4,a5,a6,a7,a8⟩:=hne
  have a0:(([]:List UInt8) == u)=false:=by rw [beq_eq_false_iff_ne];exact fun h=>h0 h.symm
  unfold wR Pw
  simp only [List.find?_cons,a0,a1,a2,a3,a4,a5,a6,a7,a8,List.find?_nil]
theorem AC (h:wR u≠0):u.all (fun b=>eN.contains b)=true:=by
 rcases zW h with rfl | h
 ·rfl
 ·simp only [aC0,aBy,or_false] at h
  rcases h with rfl | rfl | rfl | rfl | rfl | rfl | rfl | rfl <;> decide
theorem Xg (h:wR u≠0):1<=wR u/\wR u<=1099511627776:=by
 rcases zW h with rfl | h
 ·decide
 ·simp only [aC0,aBy,or_false] at h
  rcases h with rfl | rfl | rfl | rfl | rfl | rfl | rfl | rfl <;> decide
theorem pH {p:UInt8->Bool}:∀ {d u:List UInt8},d.all p=true->u.all (fun b=>!p b)=true->(d++u).takeWhile p=d/\(d++u).dropWhile p=u
 | [],[],_,_=>⟨rfl,rfl⟩
 | [],b::r,_,hu=>by
  have:p b=false:=by simp at hu;exact hu.1
  simp [this]
 | b::d,u,hd,hu=>by
  simp only [aC1,aB0] at hd
  have:=pH hd.2 hu
  simp [hd.1,this.1,this.2]
theorem Lc (h:Ak l=true):l.all fH=true/\1<=l.length:=by
 unfold Ak at h
 simp only [aB0,aBq] at h
 exact ⟨h.1.1.1.1,h.1.1.1.2⟩
theorem Av (hl:d++u=l) (hd:Ak d=true) (hu:wR u≠0):qG l=d/\qA l=u:=by
 subst hl
 have h1:=(Lc hd).1
 have h2:u.all (fun b=>!fH b)=true:=by
  refine aB1.2 fun b hb=>?_
  have:=aB1.1 (AC hu) b hb
  simp [FT b this]
 exact pH h1 h2
theorem Gm (hl:d++u=l) (hd:Ak d=true) (hu:wR u≠0):trimRightS l eN=d:=by
 subst hl
 obtain ⟨h1,_⟩:=Lc hd
 have h2:=AC hu
 unfold trimRightS
 have h3:=pH (p:=fun b=>eN.contains b) (d:=u.reverse) (u:=d.reverse) (by rw [aB2];exact h2) (by
  rw [aB2]
  refine aB1.2 fun b hb=>?_
  have:=aB1.1 h1 b hb
  cases hc:eN.contains b
  ·rfl
  ·rw [FT b hc] at this;cases this)
 rw [List.reverse_append,h3.2,List.reverse_reverse]
theorem mE (l cs):trimRightS l cs++l.drop (trimRightS l cs).length=l:=by
 unfold trimRightS
 have h:=aAs (p:=fun b=>cs.contains b) (l:=l.reverse)
 have h2:l=(l.reverse.dropWhile (fun b=>cs.contains b)).reverse++(l.reverse.takeWhile (fun b=>cs.contains b)).reverse:=by
  rw [<- List.reverse_append,h,List.reverse_reverse]
 have h3:l.drop (l.reverse.dropWhile (fun b=>cs.contains b)).reverse.length=(l.reverse.takeWhile (fun b=>cs.contains b)).reverse:=by
  conv=>lhs;rw [h2]
  simp
 rw [h3];exact h2.symm
theorem pK (l cs):(trimRightS l cs).length<=l.length:=by
 have:=aD7 List.length (mE l cs)
 simp only [aBh] at this
 omega
theorem DS (l):qJ (trimRightS l eN) (l.drop (trimRightS l eN).length)=qJ (qG l) (qA l):=by
 rw [aCi]
 constructor
 ·intro h
  have h':=h
  unfold qJ at h'
  simp only [aB0,aBq] at h'
  obtain ⟨e1,e2⟩:=Av (mE l eN) h'.1.1 h'.1.2
  rw [e1,e2];exact h
 ·intro h
  have h':=h
  unfold qJ at h'
  simp only [aB0,aBq] at h'
  have e1:=Gm (DA l) h'.1.1 h'.1.2
  have e2:l.drop (qG l).length=qA l:=by
   have h0:(qG l++qA l).drop (qG l).length=qA l:=by simp
   rwa [DA l] at h0
  rw [e1,e2];exact h
theorem Ic (h:qJ (trimRightS l eN) (l.drop (trimRightS l eN).length)=true):trimRightS l eN=qG l/\l.drop (trimRightS l eN).length=qA l:=by
 unfold qJ at h
 simp only [aB0,aBq] at h
 obtain ⟨e1,e2⟩:=Av (mE l eN) h.1.1 h.1.2
 exact ⟨e1.symm,e2.symm⟩
end
end Go.Proofs.YtlfjfopjjbbcoaaGreatDoor
