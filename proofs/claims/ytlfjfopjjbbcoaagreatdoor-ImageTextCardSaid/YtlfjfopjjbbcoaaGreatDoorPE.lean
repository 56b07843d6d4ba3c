/-
  A part of the proof of ImageText: walks of its functions and plain laws. Nothing is asked.
-/
import Derived.Test.YtlfjfopjjbbcoaaGreatDoorPD
import Derived.OrdersIn
import Derived.RecoverIn
import Derived.Shelf.Bits.Mul64
set_option linter.all false
set_option autoImplicit true
set_option relaxedAutoImplicit true
namespace Go.Proofs.YtlfjfopjjbbcoaaGreatDoor
open Go.Proofs.Tryz
open Go.RowKit
structure Ck (f:Option ByteArray->Option ByteArray):Prop where
 no:f none=none
 dec:∀ t t',f (some t)=some t'->t'.size<t.size
theorem Ck.comp {f g:Option ByteArray->Option ByteArray} (hf:Ck f) (hg:Ck g):Ck (fun s=>g (f s)) where
 no:=by show g (f none)=none;rw [hf.no,hg.no]
 dec t t' h:=by
  cases h1:f (some t) with
  | none=>have h:g (f (some t))=some t':=h;rw [h1,hg.no] at h;cases h
  | some t1=>
   have h:g (f (some t))=some t':=h
   rw [h1] at h
   have:=hf.dec _ _ h1;have:=hg.dec _ _ h;omega
theorem cH: Ck aB:=⟨rfl,fun _ _ h=>pV h⟩
theorem lK: Ck aQ:=⟨rfl,fun _ _ h=>LW h⟩
theorem oO (m:Int):Ck (aH m):=⟨rfl,fun _ _ h=>DC h⟩
def eU (f:Option ByteArray->Option ByteArray) (s:Option ByteArray):Option ByteArray:=pP f (fG s).toNat (aB s)
theorem CB {f:Option ByteArray->Option ByteArray} (h:f none=none):∀ k,pP f k none=none
 | 0=>rfl
 | k+1=>by show f (pP f k none)=none;rw [CB h k,h]
theorem Oq {f:Option ByteArray->Option ByteArray} (hf:Ck f):∀ (k:Nat) (t':ByteArray),pP f k (some t)=some t'->t'.size<=t.size
 | 0,t',h=>by cases h;exact aDl _
 | k+1,t',h=>by
  cases h1:pP f k (some t) with
  | none=>unfold pP at h;rw [h1,hf.no] at h;cases h
  | some t1=>
   have:=Oq hf k t1 h1
   unfold pP at h;rw [h1] at h
   have:=hf.dec _ _ h;omega
theorem bJ {f:Option ByteArray->Option ByteArray} (hf:Ck f):Ck (eU f) where
 no:=CB hf.no _
 dec t t' h:=by
  unfold eU at h
  cases h1:aB (some t) with
  | none=>rw [h1,CB hf.no] at h;cases h
  | some t1=>
   rw [h1] at h
   have:=pV h1;have:=Oq hf _ _ h;omega
theorem bM.dec {f:Option ByteArray->Option ByteArray} {s:Option ByteArray} (h:bM s) (hf:Ck f):bM (f s):=fun t ht=>by
 cases s with
 | none=>rw [hf.no] at ht;cases ht
 | some t1=>have:=hf.dec _ _ ht;have:=h t1 rfl;omega
theorem oS {f:Option ByteArray->Option ByteArray} (hf:Ck f) {s:Option ByteArray} (ho:bM s) (h:(eU f s).isSome=true):(fG s).toNat<=1000000:=by
 obtain ⟨t,ht⟩:=aAx.1 h
 have:=xB hf.dec hf.no _ ho.rd _ t ht
 omega
theorem tK (m:Int) {s:Option ByteArray} (ho:bM s):(jG m s).size<=1000000:=by
 cases s with
 | none=>unfold jG aB;exact aDm _
 | some t=>exact aC7 (GH m _ rfl) (ho t rfl)
theorem oN: Ck nP:=(cH).comp cH
theorem yN: Ck Ag:=(oO 20000).comp cH
theorem kW: Ck lB:=(((((cH).comp lK).comp cH).comp cH).comp cH).comp cH
theorem mF: Ck kX:=((lK).comp lK).comp cH
theorem mC: Ck jL:=(oO 20000).comp cH
theorem rZ: Ck nF:=((((((((((cH).comp cH).comp cH).comp cH).comp cH).comp cH).comp cH).comp cH).comp cH).comp cH).comp cH
theorem Sm (s:Option ByteArray):(Oh s).Fit:=⟨bZ _,bZ _⟩
theorem Sf {s:Option ByteArray} (ho:bM s):(RJ s).Fit:=⟨tK _ ho,bZ _⟩
theorem QA (s:Option ByteArray):(DF s).Fit:=⟨bZ _,bZ _,bZ _,bZ _,bZ _⟩
theorem Pm (s:Option ByteArray):(CH s).Fit:=⟨bZ _⟩
theorem Mk {s:Option ByteArray} (ho:bM s):(zQ s).Fit:=⟨tK _ ho,bZ _⟩
theorem Uj (s:Option ByteArray):(MR s).Fit:=⟨bZ _,bZ _,bZ _,bZ _,bZ _,bZ _,bZ _,bZ _,bZ _,bZ _,bZ _⟩
def pW {α:Type} (_:α) (_:Nat):Prop:=False
def lX {α:Type} (rb:Nat) (cells:α->List Value) (sz:Nat) (val:Option ByteArray->α) (fit:α->Prop) (nxt:Option ByteArray->Option ByteArray) (s:Option ByteArray) (w:World) (v:Value) (W:World):Prop:=
 ∃ (l:List α) (b:Option Addr) (c:Nat),v=.slice b l.length c/\l.length=(fG s).toNat/\(∀ i (hi:i<l.length),l[i]=val (pP nxt i (aB s)))/\(∀ x∈l,fit x)/\l.length<=1000000/\Rd sz W (.slice b l.length c) l.length c (l.flatMap cells)/\(∀ i,(Value.slice b l.length c).ownBlock=some i->w.heap.size<=i)/\(eU nxt s).isSome=true/\dJ rb (eU nxt s) W
theorem KA (rb) (s:Option ByteArray) (w) (hB:dJ rb s w) (ho:bM s):gB (·=rb) 53 [.agg [pt rb 0].toArray,.func (.func 54) ([.agg [pt rb 0].toArray]:List Value).toArray ([]:List Value).toArray] w
  (fun v W=>lX rb aK.cells 2 Oh (fun x:aK=>x.Fit) nP s w v W)
  (fun c _=>c=gK/\kT (fun s=>nP s=none) nP s):=by
 refine (TS rb 54 [.agg [pt rb 0].toArray] [] nP (fun s x _=>x=Oh s/\x.Fit) pW (fun s=>nP s=none) (fun _=>True) s w en54 hB ho trivial (fun _ _ _ _ _ _=>trivial) oN.dec oN.no (fun s x A B M h _ _=>h) ?_).mono ?_ (fun c W _ h=>h)
 ·intro s W hB hs ho hI
  exact (WB rb s W hB ho).mono (fun v W' _ ⟨e,h1,h2⟩=>⟨_,e,⟨rfl,Sm _⟩,fun i h=>h.elim,h1,h2⟩) (fun c W' _ h=>h)
 ·rintro v W hk ⟨l,b,c,rfl,h1,h2,h3,h4,h5,h6,h7⟩
  refine ⟨l,b,c,rfl,h1,fun i hi=>(h3 i hi).1,fun x hx=>?_,by rw [h1];exact oS oN ho h6,h2,h4,h6,h7⟩
  obtain ⟨i,hi,rfl⟩:=aBa.1 hx
  exact (h3 i hi).2
theorem TA (rb) (s:Option ByteArray) (w) (bx) (hX:Bk bx [pt rb 0] 57 w) (hxr:bx≠rb) (hB:dJ rb s w) (ho:bM s):gB (·=rb) 58 [.agg [pt rb 0].toArray,.func (.func 59) ([]:List Value).toArray ([pt bx 0]:List Value).toArray] w
  (fun v W=>lX rb jC.cells 2 RJ (fun x:jC=>x.Fit) Ag s w v W)
  (fun c _=>c=gK/\kT (fun s=>Ag s=none) Ag s):=by
 refine (TG rb 59 [] [pt bx 0] Ag (fun s x _=>x=RJ s/\x.Fit) pW (fun s=>Ag s=none) (fun W=>Bk bx [pt rb 0] 57 W) s w en59 hB ho hX (fun A B M h k hM=>h.km k (fun e=>(hM _ e).elim hxr (fun h2=>absurd hX.lt (aDz.2 h2)))) yN.dec yN.no (fun s x A B M h _ _=>h) ?_).mono ?_ (fun c W _ h=>h)
 ·intro s W hB hs ho hI
  exact (WR rb s W bx hI hxr hB ho).mono (fun v W' _ ⟨e,h1,h2⟩=>⟨_,e,⟨rfl,Sf ho⟩,fun i h=>h.elim,h1,h2⟩) (fun c W' _ h=>h)
 ·rintro v W hk ⟨l,b,c,rfl,h1,h2,h3,h4,h5,h6,h7⟩
  refine ⟨l,b,c,rfl,h1,fun i hi=>(h3 i hi).1,fun x hx=>?_,by rw [h1];exact oS yN ho h6,h2,h4,h6,h7⟩
  obtain ⟨i,hi,rfl⟩:=aBa.1 hx
  exact (h3 i hi).2
theorem OT (rb) (s:Option ByteArray) (w) (bx) (hX:Bk bx [pt rb 0] 57 w) (hxr:bx≠rb) (hB:dJ rb s w) (ho:bM s):gB (·=rb) 60 [.agg [pt rb 0].toArray,.func (.func 61) ([]:List Value).toArray ([pt bx 0]:List Value).toArray] w
  (fun v W=>lX rb eL.cells 6 DF (fun x:eL=>x.Fit) lB s w v W)
  (fun c _=>c=gK/\kT (fun s=>lB s=none) lB s):=by
 refine (TM rb 61 [] [pt bx 0] lB (fun s x _=>x=DF s/\x.Fit) pW (fun s=>lB s=none) (fun W=>Bk bx [pt rb 0] 57 W) s w en61 hB ho hX (fun A B M h k hM=>h.km k (fun e=>(hM _ e).elim hxr (fun h2=>absurd hX.lt (aDz.2 h2)))) kW.dec kW.no (fun s x A B M h _ _=>h) ?_).mono ?_ (fun c W _ h=>h)
 ·intro s W hB hs ho hI
  exact (TH rb s W bx hI hxr hB ho).mono (fun v W' _ ⟨e,h1,h2⟩=>⟨_,e,⟨rfl,QA _⟩,fun i h=>h.elim,h1,h2⟩) (fun c W' _ h=>h)
 ·rintro v W hk ⟨l,b,c,rfl,h1,h2,h3,h4,h5,h6,h7⟩
  refine ⟨l,b,c,rfl,h1,fun i hi=>(h3 i hi).1,fun x hx=>?_,by rw [h1];exact oS kW ho h6,h2,h4,h6,h7⟩
  obtain ⟨i,hi,rfl⟩:=aBa.1 hx
  exact (h3 i hi).2
theorem OX (rb) (s:Option ByteArray) (w) (bx) (hX:Bk bx [pt rb 0] 57 w) (hxr:bx≠rb) (hB:dJ rb s w) (ho:bM s):gB (·=rb) 62 [.agg [pt rb 0].toArray,.func (.func 63) ([]:List Value).toArray ([pt bx 0]:List Value).toArray] w
  (fun v W=>lX rb cN.cells 3 CH (fun x:cN=>x.Fit) kX s w v W)
  (fun c _=>c=gK/\kT (fun s=>kX s=none) kX s):=by
 refine (Ua rb 63 [] [pt bx 0] kX (fun s x _=>x=CH s/\x.Fit) pW (fun s=>kX s=none) (fun W=>Bk bx [pt rb 0] 57 W) s w en63 hB ho hX (fun A B M h k hM=>h.km k (fun e=>(hM _ e).elim hxr (fun h2=>absurd hX.lt (aDz.2 h2)))) mF.dec mF.no (fun s x A B M h _ _=>h) ?_).mono ?_ (fun c W _ h=>h)
 ·intro s W hB hs ho hI
  exact (Vu rb s W bx hI hxr hB ho).mono (fun v W' _ ⟨e,h1,h2⟩=>⟨_,e,⟨rfl,Pm _⟩,fun i h=>h.elim,h1,h2⟩) (fun c W' _ h=>h)
 ·rintro v W hk ⟨l,b,c,rfl,h1,h2,h3,h4,h5,h6,h7⟩
  refine ⟨l,b,c,rfl,h1,fun i hi=>(h3 i hi).1,fun x hx=>?_,by rw [h1];exact oS mF ho h6,h2,h4,h6,h7⟩
  obtain ⟨i,hi,rfl⟩:=aBa.1 hx
  exact (h3 i hi).2
theorem Mp (rb) (s:Option ByteArray) (w) (bx) (hX:Bk bx [pt rb 0] 57 w) (hxr:bx≠rb) (hB:dJ rb s w) (ho:bM s):gB (·=rb) 64 [.agg [pt rb 0].toArray,.func (.func 65) ([]:List Value).toArray ([pt bx 0]:List Value).toArray] w
  (fun v W=>lX rb dQ.cells 2 zQ (fun x:dQ=>x.Fit) jL s w v W)
  (fun c _=>c=gK/\kT (fun s=>jL s=none) jL s):=by
 refine (UT rb 65 [] [pt bx 0] jL (fun s x _=>x=zQ s/\x.Fit) pW (fun s=>jL s=none) (fun W=>Bk bx [pt rb 0] 57 W) s w en65 hB ho hX (fun A B M h k hM=>h.km k (fun e=>(hM _ e).elim hxr (fun h2=>absurd hX.lt (aDz.2 h2)))) mC.dec mC.no (fun s x A B M h _ _=>h) ?_).mono ?_ (fun c W _ h=>h)
 ·intro s W hB hs ho hI
  exact (Ri rb s W bx hI hxr hB ho).mono (fun v W' _ ⟨e,h1,h2⟩=>⟨_,e,⟨rfl,Mk ho⟩,fun i h=>h.elim,h1,h2⟩) (fun c W' _ h=>h)
 ·rintro v W hk ⟨l,b,c,rfl,h1,h2,h3,h4,h5,h6,h7⟩
  refine ⟨l,b,c,rfl,h1,fun i hi=>(h3 i hi).1,fun x hx=>?_,by rw [h1];exact oS mC ho h6,h2,h4,h6,h7⟩
  obtain ⟨i,hi,rfl⟩:=aBa.1 hx
  exact (h3 i hi).2
theorem OK (rb) (s:Option ByteArray) (w) (bx) (hX:Bk bx [pt rb 0] 57 w) (hxr:bx≠rb) (hB:dJ rb s w) (ho:bM s):gB (·=rb) 66 [.agg [pt rb 0].toArray,.func (.func 67) ([]:List Value).toArray ([pt bx 0]:List Value).toArray] w
  (fun v W=>lX rb lQ.cells 11 MR (fun x:lQ=>x.Fit) nF s w v W)
  (fun c _=>c=gK/\kT (fun s=>nF s=none) nF s):=by
 refine (UH rb 67 [] [pt bx 0] nF (fun s x _=>x=MR s/\x.Fit) pW (fun s=>nF s=none) (fun W=>Bk bx [pt rb 0] 57 W) s w en67 hB ho hX (fun A B M h k hM=>h.km k (fun e=>(hM _ e).elim hxr (fun h2=>absurd hX.lt (aDz.2 h2)))) rZ.dec rZ.no (fun s x A B M h _ _=>h) ?_).mono ?_ (fun c W _ h=>h)
 ·intro s W hB hs ho hI
  exact (Yg rb s W bx hI hxr hB ho).mono (fun v W' _ ⟨e,h1,h2⟩=>⟨_,e,⟨rfl,Uj _⟩,fun i h=>h.elim,h1,h2⟩) (fun c W' _ h=>h)
 ·rintro v W hk ⟨l,b,c,rfl,h1,h2,h3,h4,h5,h6,h7⟩
  refine ⟨l,b,c,rfl,h1,fun i hi=>(h3 i hi).1,fun x hx=>?_,by rw [h1];exact oS rZ ho h6,h2,h4,h6,h7⟩
  obtain ⟨i,hi,rfl⟩:=aBa.1 hx
  exact (h3 i hi).2
theorem Kv (rb) (s:Option ByteArray) (w) (hB:dJ rb s w) (ho:bM s):gB (·=rb) 55 [.agg [pt rb 0].toArray,.func (.func 45) ([.agg [pt rb 0].toArray]:List Value).toArray ([]:List Value).toArray] w
  (fun v W=>lX rb gI 1 dD (fun x:Int=>jO x) aB s w v W)
  (fun c _=>c=gK/\kT (fun s=>aB s=none) aB s):=by
 refine (TP rb 45 [.agg [pt rb 0].toArray] [] aB (fun s x _=>x=dD s/\(jO x)) pW (fun s=>aB s=none) (fun _=>True) s w kB hB ho trivial (fun _ _ _ _ _ _=>trivial) cH.dec cH.no (fun s x A B M h _ _=>h) ?_).mono ?_ (fun c W _ h=>h)
 ·intro s W hB hs ho hI
  exact (eC rb s W hB ho).mono (fun v W' _ ⟨e,h1,h2⟩=>⟨_,e,⟨rfl,bZ _⟩,fun i h=>h.elim,h1,h2⟩) (fun c W' _ h=>h)
 ·rintro v W hk ⟨l,b,c,rfl,h1,h2,h3,h4,h5,h6,h7⟩
  refine ⟨l,b,c,rfl,h1,fun i hi=>(h3 i hi).1,fun x hx=>?_,by rw [h1];exact oS cH ho h6,h2,h4,h6,h7⟩
  obtain ⟨i,hi,rfl⟩:=aBa.1 hx
  exact (h3 i hi).2
def tL (x:bW) (i:Nat):Prop:=(Value.slice x.fb x.free.length x.fc).ownBlock=some i\/(Value.slice x.ub x.uses.length x.uc).ownBlock=some i
def zC (x:dI) (i:Nat):Prop:=(Value.slice x.eb x.exts.length x.ec).ownBlock=some i\/(Value.slice x.rb x.refs.length x.rc).ownBlock=some i
theorem nK {g:Nat->Value} {ty:TypeId} {a1:Int} {a2:Int} {a3:Int} {a4:Bool} {a5:Bool} (h0:ev n g x0=zi a1) (h1:ev n g x1=zi a2) (h2:ev n g x2=zi a3) (h3:ev n g x3=.bool a4) (h4:ev n g x4=.bool a5):aL n g ⟨dd,.build 70 #[(0,x0),(1,x1),(2,x2),(3,x3),(4,x4)],ty,pos,aft,gd⟩ w (.agg [zi a1,zi a2,zi a3,.bool a4,.bool a5,cP,cP].toArray):=
 iA (ps:=[(0,x0),(1,x1),(2,x2),(3,x3),(4,x4)]) (by simp only [aC3,aDb,h0,h1,h2,h3,h4];kernel_rfl)
def AF (s:Option ByteArray):Option ByteArray:=eU Ag (eU nP (aQ (aQ (aB (aB (aB s))))))
theorem jD: Ck AF:=(((((cH.comp cH).comp cH).comp lK).comp lK).comp (bJ oN)).comp (bJ yN)
theorem Rb (rb bx) (s:Option ByteArray) (w) (hX:Bk bx [pt rb 0] 57 w) (hxr:bx≠rb) (hB:dJ rb s w) (ho:bM s):gB (·=rb) 57 [pt bx 0] w (fun v w'=>∃ x:bW,v=.agg (bW.cells x).toArray/\(x.Fit/\x.At w')/\(∀ i,tL x i->w.heap.size<=i/\i<w'.heap.size)/\(AF s).isSome=true/\dJ rb (AF s) w') (fun c _=>c=gK/\True):=by
 refine aJ (n:=24) func57 rfl ntmps57 (aA1 rfl) (rg (eA (cs:=RS) zeroValue70 rfl fun w1 B1 k1 z1 =>?_))
 have hnrB1:w.heap.size≠rb:=by have:=aEf hB;have:=(aD8 (fun _=>False) w).size;omega
 have nhB_B1:=aC8 hB.lt
 have nhX_B1:=aC8 hX.lt
 have lkB1_w:=aDl w.heap.size
 have hB:=hB.below k1
 have hX:=hX.below k1
 have m2:KM (·=rb) w w1:=aDr k1
 refine nx ?_
 have hrbw:=hB.lt
 have hlb3:=hB.lt
 have hlb4:=hX.lt
 have hlb5:=B1.lt
 refine EY 12 (fun c W=>c=gK/\KM (·=rb) w1 W/\True) (eE (V:=_::(vE (zi (dD s)))::_::(vE (zi (dD (aB s))))::_::(vE (zi (dD (aB (aB s)))))::_::(vE (.bool (iM (aB (aB (aB s))))))::_::(vE (.bool (iM (aQ (aB (aB (aB s)))))))::_::(fun v W=>∃ b,v=pt b 0/\w1.heap.size<=b/\Bk b RS 70 W)::[]) (M:=fun i=>i=rb) (ch:=[1,3,5,7,9]) (L:=[(fun W=>dJ rb s W),(fun W=>(aB s).isSome=true/\dJ rb (aB s) W),(fun W=>(aB (aB s)).isSome=true/\dJ rb (aB (aB s)) W),(fun W=>(aB (aB (aB s))).isSome=true/\dJ rb (aB (aB (aB s))) W),(fun W=>(aQ (aB (aB (aB s)))).isSome=true/\dJ rb (aQ (aB (aB (aB s)))) W),(fun W=>(aQ (aQ (aB (aB (aB s))))).isSome=true/\dJ rb (aQ (aQ (aB (aB (aB s))))) W)]) rfl ⟨aC,aC,aC,aC,aC,aC,aC,aC,aC,aC,aC,(XO (fun i (hi:i=rb)=>by omega)),trivial⟩ rfl rfl rfl (by intro P hP a b h k;simp only [aC0,aBy,or_false] at hP;rcases hP with rfl | rfl | rfl | rfl | rfl | rfl;exact aD3 h k;exact ⟨h.1,aD3 h.2 k⟩;exact ⟨h.1,aD3 h.2 k⟩;exact ⟨h.1,aD3 h.2 k⟩;exact ⟨h.1,aD3 h.2 k⟩;exact ⟨h.1,aD3 h.2 k⟩)) [(11,2),(10,13)] [0,1] rfl (by kernel_rfl) rfl rfl rfl rfl rfl hB (fun c g W ⟨e,hk,hn⟩=>And.intro rfl (And.intro ((m2).next hk (fun i hi=>.inl hi)) (Or.inr (Exists.intro c (And.intro rfl (And.intro e trivial)))))) (fun Sd=>⟨
  iG 0 Sd rfl fun hT q=>dV q ((hX.km hT (fun e=>hxr e)).range) rfl,
  oc 0 [(0,3)] [] rfl rfl rfl (by rintro g1 w1 hT ⟨h0,-⟩ - hB0;exact mZ (fst:=[]) (caps:=[]) rfl (dZ (a1 h0)) kB (eC rb s w1 hB0 ho) (fun v W hk ⟨e,h1,h2⟩=>And.intro hk (And.intro e (And.intro h1 h2))) (fun c W hk ⟨e,h1⟩=>⟨e,aD4 hT hk,trivial⟩)),
  iG 0 Sd rfl fun hT q=>dV q ((hX.km hT (fun e=>hxr e)).range) rfl,
  oc 1 [(2,5)] [] rfl rfl rfl (by rintro g1 w1 hT ⟨h2,-⟩ - ⟨hs0,hB0⟩;exact mZ (fst:=[]) (caps:=[]) rfl (dZ (a1 h2)) kB (eC rb (aB s) w1 hB0 (ho).rd) (fun v W hk ⟨e,h1,h2⟩=>And.intro hk (And.intro e (And.intro h1 h2))) (fun c W hk ⟨e,h1⟩=>⟨e,aD4 hT hk,trivial⟩)),
  iG 0 Sd rfl fun hT q=>dV q ((hX.km hT (fun e=>hxr e)).range) rfl,
  oc 2 [(4,7)] [] rfl rfl rfl (by rintro g1 w1 hT ⟨h4,-⟩ - ⟨hs0,hB0⟩;exact mZ (fst:=[]) (caps:=[]) rfl (dZ (a1 h4)) kB (eC rb (aB (aB s)) w1 hB0 ((ho).rd).rd) (fun v W hk ⟨e,h1,h2⟩=>And.intro hk (And.intro e (And.intro h1 h2))) (fun c W hk ⟨e,h1⟩=>⟨e,aD4 hT hk,trivial⟩)),
  iG 0 Sd rfl fun hT q=>dV q ((hX.km hT (fun e=>hxr e)).range) rfl,
  oc 3 [(6,9)] [] rfl rfl rfl (by rintro g1 w1 hT ⟨h6,-⟩ - ⟨hs0,hB0⟩;exact mZ (fst:=[]) (caps:=[]) rfl (dZ (a1 h6)) EU (wY rb (aB (aB (aB s))) w1 hB0 (((ho).rd).rd).rd) (fun v W hk ⟨e,h1,h2⟩=>And.intro hk (And.intro e (And.intro h1 h2))) (fun c W hk ⟨e,h1⟩=>⟨e,aD4 hT hk,trivial⟩)),
  iG 0 Sd rfl fun hT q=>dV q ((hX.km hT (fun e=>hxr e)).range) rfl,
  oc 4 [(8,11)] [] rfl rfl rfl (by rintro g1 w1 hT ⟨h8,-⟩ - ⟨hs0,hB0⟩;exact mZ (fst:=[]) (caps:=[]) rfl (dZ (a1 h8)) EU (wY rb (aQ (aB (aB (aB s)))) w1 hB0 ((((ho).rd).rd).rd).rdF) (fun v W hk ⟨e,h1,h2⟩=>And.intro hk (And.intro e (And.intro h1 h2))) (fun c W hk ⟨e,h1⟩=>⟨e,aD4 hT hk,trivial⟩)),
  aP [1,3,5,7,9] Sd rfl fun h=>nK h.1 h.2.1 h.2.2.1 h.2.2.2.1 h.2.2.2.2.1,
  oW [] [] Sd rfl fun _ _ hT _ _=>(Ey (cs:=RS) zeroValue70 rfl (fun W hB hb=>⟨hb,_,rfl,KM.size hT,hB⟩)),
  trivial⟩) ?_
 rintro g6 w6 k6 ⟨s2,s13,-⟩ ⟨o0,o1,-⟩ ⟨hs6,hB6⟩ Kq hK
 obtain ⟨ab2,s2,hab2,hAB2⟩:=s2
 have s0:g6 0=pt bx (0):=o0.trans rfl
 have s1:g6 1=pt w.heap.size (0):=o1.trans rfl
 have hX:=hX.km k6 (fun e=>hxr e)
 have B1:=B1.km k6 (fun e=>hnrB1 e)
 have m7:=m2.next k6 (fun i (hi:i=rb)=>.inl hi)
 have nnab2_hB:rb≠ab2:=fun e=>by have:=hlb3;omega
 have nnab2_hX:bx≠ab2:=fun e=>by have:=hlb4;omega
 have nnab2_B1:w.heap.size≠ab2:=fun e=>by have:=hlb5;omega
 refine kI (vs:=[zi (dD s),zi (dD (aB s)),zi (dD (aB (aB s))),.bool (iM (aB (aB (aB s)))),.bool (iM (aQ (aB (aB (aB s))))),cP,cP]) hAB2 sizeOf70 s2 s13 rfl rfl fun w8 hAB2n O8 z8 =>?_
 have hab2x:bx<w1.heap.size:=hlb4
 have hnrab2:ab2≠rb:=by omega
 have lkhAB2_w:w.heap.size<=ab2:=by have:=m2.size;omega
 replace hAB2:=hAB2n
 have hB6:=hB6.only O8 (fun e=>nnab2_hB.symm e.symm)
 have hX:=hX.only O8 (fun e=>nnab2_hX.symm e.symm)
 have B1:=B1.only O8 (fun e=>nnab2_B1.symm e.symm)
 have m9:=m7.only O8 (.inr lkhAB2_w)
 refine hK _ _ (rg (sq (dV s0 hX.range rfl) (sq (dV s0 hX.range rfl) (sq (tX rfl) ?_))))
 have hltpf_ab2:=hAB2.lt
 refine vY (fst:=[]) (caps:=[]) aAb rfl (dZ (a2 rfl rfl)) (KA rb (aQ (aQ (aB (aB (aB s))))) _ hB6 ((((((ho).rd).rd).rd).rdF).rdF)) (fun cP10 w10 k10 hP10=>And.intro rfl (And.intro ((m9).next k10 (fun i (hi:i=rb)=>.inl hi)) (Or.inr (Exists.intro cP10 (And.intro rfl (And.intro hP10.1 trivial)))))) ?_
 rintro v10 w10 k10 ⟨lf,bf,cf,rfl,-,-,hfff,hnff,hRff,hoff,hsqf,hB6⟩
 have hX:=hX.km k10 (fun e=>hxr e)
 have B1:=B1.km k10 (fun e=>hnrB1 e)
 have hAB2:=hAB2.km k10 (fun e=>hnrab2 e)
 have m11:=m9.next k10 (fun i (hi:i=rb)=>.inl hi)
 have hoff:∀ i,(Value.slice bf lf.length cf).ownBlock=some i->w8.heap.size<=i:=hoff
 have hbzf:=m9.size
 have hltf_ab2:ab2<w8.heap.size:=hltpf_ab2
 refine sq (sC s2) (eP hAB2 sizeOf67 rfl rfl rfl rfl fun w12 hAB2n O12 z12 =>?_)
 replace hAB2:=hAB2n
 have hB6:=hB6.only O12 (fun e=>nnab2_hB.symm e.symm)
 have hX:=hX.only O12 (fun e=>nnab2_hX.symm e.symm)
 have B1:=B1.only O12 (fun e=>nnab2_B1.symm e.symm)
 have hRff:=hRff.only O12 (fun e=>by have:=hoff _ e;omega)
 have m13:=m11.only O12 (.inr lkhAB2_w)
 refine nx (rg (sq (dV s0 hX.range rfl) (sq (Aa s0) ?_)))
 have hltpu_ab2:=hAB2.lt
 refine vY (fst:=[]) (caps:=[]) en58 rfl (dZ (a2 rfl rfl)) (TA rb (eU nP (aQ (aQ (aB (aB (aB s)))))) _ bx hX hxr hB6 (((((((ho).rd).rd).rd).rdF).rdF).dec (bJ oN))) (fun cP14 w14 k14 hP14=>And.intro rfl (And.intro ((m13).next k14 (fun i (hi:i=rb)=>.inl hi)) (Or.inr (Exists.intro cP14 (And.intro rfl (And.intro hP14.1 trivial)))))) ?_
 rintro v14 w14 k14 ⟨lu,bu,cu,rfl,-,-,hffu,hnfu,hRfu,hofu,hsqu,hB6⟩
 have B1:=B1.km k14 (fun e=>hnrB1 e)
 have hAB2:=hAB2.km k14 (fun e=>hnrab2 e)
 have hRff:=hRff.km k14 (fun i hi e=>by have:=hoff i hi;omega)
 have m15:=m13.next k14 (fun i (hi:i=rb)=>.inl hi)
 have hofu:∀ i,(Value.slice bu lu.length cu).ownBlock=some i->w12.heap.size<=i:=hofu
 have hbzu:=m13.size
 have hltu_ab2:ab2<w12.heap.size:=hltpu_ab2
 refine sq (IF s2) (eP hAB2 sizeOf68 rfl rfl rfl rfl fun w16 hAB2n O16 z16 =>?_)
 replace hAB2:=hAB2n
 have hB6:=hB6.only O16 (fun e=>nnab2_hB.symm e.symm)
 have B1:=B1.only O16 (fun e=>nnab2_B1.symm e.symm)
 have hRff:=hRff.only O16 (fun e=>by have:=hoff _ e;omega)
 have hRfu:=hRfu.only O16 (fun e=>by have:=hofu _ e;omega)
 have m17:=m15.only O16 (.inr lkhAB2_w)
 refine nx (rg (sq (ML s2 hAB2.range rfl) (bR (vs:=[zi (dD s),zi (dD (aB s)),zi (dD (aB (aB s))),.bool (iM (aB (aB (aB s)))),.bool (iM (aQ (aB (aB (aB s))))),.slice bf lf.length cf,.slice bu lu.length cu]) B1 sizeOf70 s1 rfl rfl rfl fun w18 B1n O18 z18 =>?_)))
 replace B1:=B1n
 have hB6:=hB6.only O18 nhB_B1
 have hRff:=hRff.only O18 (fun e=>by have:=hoff _ e;omega)
 have hRfu:=hRfu.only O18 (fun e=>by have:=hofu _ e;omega)
 have m19:=m17.only O18 (.inr lkB1_w)
 refine nx (aE ?_)
 have hend:=m19.size
 have hownlt:∀ i,tL (⟨dD s,dD (aB s),dD (aB (aB s)),iM (aB (aB (aB s))),iM (aQ (aB (aB (aB s)))),bf,cf,lf,bu,cu,lu⟩:bW) i->w.heap.size<=i/\i<w18.heap.size:=fun i hi=>by rcases hi with hi | hi;exact ⟨aC7 hbzf (hoff i hi),hRff.lt i hi⟩;exact ⟨aC7 hbzu (hofu i hi),hRfu.lt i hi⟩
 exact tY (rW rfl s1 (vZ (cs:=bW.cells (⟨dD s,dD (aB s),dD (aB (aB s)),iM (aB (aB (aB s))),iM (aQ (aB (aB (aB s)))),bf,cf,lf,bu,cu,lu⟩:bW)) isAgg70 sizeOf70 B1)) ⟨m19,.inl ⟨_,rfl,(⟨dD s,dD (aB s),dD (aB (aB s)),iM (aB (aB (aB s))),iM (aQ (aB (aB (aB s)))),bf,cf,lf,bu,cu,lu⟩:bW),rfl,⟨⟨bZ _,bZ _,bZ _,hfff,hffu,hnff,hnfu⟩,⟨hRff,hRfu⟩⟩,hownlt,hsqu,hB6⟩⟩
def rR {α:Type} (cells:α->List Value) (sz:Nat) (fit:α->Prop) (base:Nat) (v:Value) (W:World):Prop:=
 ∃ (l:List α) (b:Option Addr) (c:Nat),v=.slice b l.length c/\(∀ x∈l,fit x)/\l.length<=1000000/\Rd sz W (.slice b l.length c) l.length c (l.flatMap cells)/\∀ i,(Value.slice b l.length c).ownBlock=some i->base<=i
theorem rR.km {α:Type} {cells:α->List Value} {fit:α->Prop} {M:Nat->Prop} (h:rR cells sz fit base v A) (k:KM M A B) (hM:∀ i,M i->i<base):rR cells sz fit base v B:=by
 obtain ⟨l,b,c,h1,h2,h3,h4,h5⟩:=h
 exact ⟨l,b,c,h1,h2,h3,h4.km k (fun i hi hm=>by have:=h5 i hi;have:=hM i hm;omega),h5⟩
theorem stFQ {α:Type} {cells:α->List Value} {fit:α->Prop} {M:Nat->Prop} (hM:∀ i,M i->i<base):CW (KM M) (rR cells sz fit base):=fun _ _ _ h k=>h.km k hM
theorem lX.q {α:Type} {cells:α->List Value} {val:Option ByteArray->α} {fit:α->Prop} {nxt:Option ByteArray->Option ByteArray} {s:Option ByteArray} (h:lX rb cells sz val fit nxt s w v W) (hb:base<=w.heap.size):rR cells sz fit base v W/\(eU nxt s).isSome=true/\dJ rb (eU nxt s) W:=by
 obtain ⟨l,b,c,h1,h2,h3,h4,h5,h6,h7,h8,h9⟩:=h
 exact ⟨⟨l,b,c,h1,h4,h5,h6,fun i hi=>aC7 hb (h7 i hi)⟩,h8,h9⟩
theorem pX {n:Nat} {g:Nat->Value} {w:World} {dd:Option Tmp} {ty:TypeId} {pos:String} {aft:Array Edge} {gd:Option (Nat × Bool)} {x0 x1 x2 x3 x4:Operand} {a1:Int} {a2:ByteArray} {a3:ByteArray} {a4:ByteArray} {a5:Bool} (h0:ev n g x0=zi a1) (h1:ev n g x1=.string a2) (h2:ev n g x2=.string a3) (h3:ev n g x3=.string a4) (h4:ev n g x4=.bool a5):aL n g ⟨dd,.build 109 #[(0,x0),(1,x1),(2,x2),(3,x3),(4,x4)],ty,pos,aft,gd⟩ w (.agg [zi a1,.string a2,.string a3,.string a4,.bool a5,cP,cP].toArray):=
 iA (ps:=[(0,x0),(1,x1),(2,x2),(3,x3),(4,x4)]) (by simp only [aC3,aDb,h0,h1,h2,h3,h4];kernel_rfl)
def FS (s:Option ByteArray):Option ByteArray:=eU aB (eU nP (aQ (aH 20000 (aH 20000 (aH 20000 (aB s))))))
theorem jX: Ck FS:=(((((cH.comp (oO 20000)).comp (oO 20000)).comp (oO 20000)).comp lK).comp (bJ oN)).comp (bJ cH)
theorem UV (rb bx) (s:Option ByteArray) (w) (hX:Bk bx [pt rb 0] 57 w) (hxr:bx≠rb) (hB:dJ rb s w) (ho:bM s):gB (·=rb) 52 [pt bx 0] w (fun v w'=>∃ x:dI,v=.agg (dI.cells x).toArray/\(x.Fit/\x.At w')/\(∀ i,zC x i->w.heap.size<=i/\i<w'.heap.size)/\(FS s).isSome=true/\dJ rb (FS s) w') (fun c _=>c=gK/\True):=by
 refine aJ (n:=25) func52 rfl ntmps52 (aA1 rfl) (rg (eA (cs:=zl6) zeroValue109 rfl fun w1 B1 k1 z1 =>?_))
 have hnrB1:w.heap.size≠rb:=by have:=aEf hB;have:=(aD8 (fun _=>False) w).size;omega
 have nhB_B1:=aC8 hB.lt
 have nhX_B1:=aC8 hX.lt
 have lkB1_w:=aDl w.heap.size
 have hB:=hB.below k1
 have hX:=hX.below k1
 have m2:KM (·=rb) w w1:=aDr k1
 refine nx ?_
 have hrbw:=hB.lt
 have hlb3:=hB.lt
 have hlb4:=hX.lt
 have hlb5:=B1.lt
 refine EY 12 (fun c W=>c=gK/\KM (·=rb) w1 W/\True) (eE (V:=_::(vE (zi (dD s)))::_::(vE (.string (jG 20000 (aB s))))::_::(vE (.string (jG 20000 (aH 20000 (aB s)))))::_::(vE (.string (jG 20000 (aH 20000 (aH 20000 (aB s))))))::_::(vE (.bool (iM (aH 20000 (aH 20000 (aH 20000 (aB s)))))))::_::(fun v W=>∃ b,v=pt b 0/\w1.heap.size<=b/\Bk b zl6 109 W)::[]) (M:=fun i=>i=rb) (ch:=[1,3,5,7,9]) (L:=[(fun W=>dJ rb s W),(fun W=>(aB s).isSome=true/\dJ rb (aB s) W),(fun W=>(aH 20000 (aB s)).isSome=true/\dJ rb (aH 20000 (aB s)) W),(fun W=>(aH 20000 (aH 20000 (aB s))).isSome=true/\dJ rb (aH 20000 (aH 20000 (aB s))) W),(fun W=>(aH 20000 (aH 20000 (aH 20000 (aB s)))).isSome=true/\dJ rb (aH 20000 (aH 20000 (aH 20000 (aB s)))) W),(fun W=>(aQ (aH 20000 (aH 20000 (aH 20000 (aB s))))).isSome=true/\dJ rb (aQ (aH 20000 (aH 20000 (aH 20000 (aB s))))) W)]) rfl ⟨aC,aC,aC,aC,aC,aC,aC,aC,aC,aC,aC,(XO (fun i (hi:i=rb)=>by omega)),trivial⟩ rfl rfl rfl (by intro P hP a b h k;simp only [aC0,aBy,or_false] at hP;rcases hP with rfl | rfl | rfl | rfl | rfl | rfl;exact aD3 h k;exact ⟨h.1,aD3 h.2 k⟩;exact ⟨h.1,aD3 h.2 k⟩;exact ⟨h.1,aD3 h.2 k⟩;exact ⟨h.1,aD3 h.2 k⟩;exact ⟨h.1,aD3 h.2 k⟩)) [(11,2),(10,13)] [0,1] rfl (by kernel_rfl) rfl rfl rfl rfl rfl hB (fun c g W ⟨e,hk,hn⟩=>And.intro rfl (And.intro ((m2).next hk (fun i hi=>.inl hi)) (Or.inr (Exists.intro c (And.intro rfl (And.intro e trivial)))))) (fun Sd=>⟨
  iG 0 Sd rfl fun hT q=>dV q ((hX.km hT (fun e=>hxr e)).range) rfl,
  oc 0 [(0,3)] [] rfl rfl rfl (by rintro g1 w1 hT ⟨h0,-⟩ - hB0;exact mZ (fst:=[]) (caps:=[]) rfl (dZ (a1 h0)) kB (eC rb s w1 hB0 ho) (fun v W hk ⟨e,h1,h2⟩=>And.intro hk (And.intro e (And.intro h1 h2))) (fun c W hk ⟨e,h1⟩=>⟨e,aD4 hT hk,trivial⟩)),
  iG 0 Sd rfl fun hT q=>dV q ((hX.km hT (fun e=>hxr e)).range) rfl,
  oc 1 [(2,5)] [] rfl rfl rfl (by rintro g1 w1 hT ⟨h2,-⟩ - ⟨hs0,hB0⟩;exact mZ (fst:=[]) (caps:=[]) rfl (dZ (a1 h2)) Jl (rE rb (aB s) w1 hB0 (ho).rd) (fun v W hk ⟨e,h1,h2⟩=>And.intro hk (And.intro e (And.intro h1 h2))) (fun c W hk ⟨e,h1⟩=>⟨e,aD4 hT hk,trivial⟩)),
  iG 0 Sd rfl fun hT q=>dV q ((hX.km hT (fun e=>hxr e)).range) rfl,
  oc 2 [(4,7)] [] rfl rfl rfl (by rintro g1 w1 hT ⟨h4,-⟩ - ⟨hs0,hB0⟩;exact mZ (fst:=[]) (caps:=[]) rfl (dZ (a1 h4)) Jl (rE rb (aH 20000 (aB s)) w1 hB0 ((ho).rd).rdT) (fun v W hk ⟨e,h1,h2⟩=>And.intro hk (And.intro e (And.intro h1 h2))) (fun c W hk ⟨e,h1⟩=>⟨e,aD4 hT hk,trivial⟩)),
  iG 0 Sd rfl fun hT q=>dV q ((hX.km hT (fun e=>hxr e)).range) rfl,
  oc 3 [(6,9)] [] rfl rfl rfl (by rintro g1 w1 hT ⟨h6,-⟩ - ⟨hs0,hB0⟩;exact mZ (fst:=[]) (caps:=[]) rfl (dZ (a1 h6)) Jl (rE rb (aH 20000 (aH 20000 (aB s))) w1 hB0 (((ho).rd).rdT).rdT) (fun v W hk ⟨e,h1,h2⟩=>And.intro hk (And.intro e (And.intro h1 h2))) (fun c W hk ⟨e,h1⟩=>⟨e,aD4 hT hk,trivial⟩)),
  iG 0 Sd rfl fun hT q=>dV q ((hX.km hT (fun e=>hxr e)).range) rfl,
  oc 4 [(8,11)] [] rfl rfl rfl (by rintro g1 w1 hT ⟨h8,-⟩ - ⟨hs0,hB0⟩;exact mZ (fst:=[]) (caps:=[]) rfl (dZ (a1 h8)) EU (wY rb (aH 20000 (aH 20000 (aH 20000 (aB s)))) w1 hB0 ((((ho).rd).rdT).rdT).rdT) (fun v W hk ⟨e,h1,h2⟩=>And.intro hk (And.intro e (And.intro h1 h2))) (fun c W hk ⟨e,h1⟩=>⟨e,aD4 hT hk,trivial⟩)),
  aP [1,3,5,7,9] Sd rfl fun h=>pX h.1 h.2.1 h.2.2.1 h.2.2.2.1 h.2.2.2.2.1,
  oW [] [] Sd rfl fun _ _ hT _ _=>(Ey (cs:=zl6) zeroValue109 rfl (fun W hB hb=>⟨hb,_,rfl,KM.size hT,hB⟩)),
  trivial⟩) ?_
 rintro g6 w6 k6 ⟨s2,s13,-⟩ ⟨o0,o1,-⟩ ⟨hs6,hB6⟩ Kq hK
 obtain ⟨ab2,s2,hab2,hAB2⟩:=s2
 have s0:g6 0=pt bx (0):=o0.trans rfl
 have s1:g6 1=pt w.heap.size (0):=o1.trans rfl
 have hX:=hX.km k6 (fun e=>hxr e)
 have B1:=B1.km k6 (fun e=>hnrB1 e)
 have m7:=m2.next k6 (fun i (hi:i=rb)=>.inl hi)
 have nnab2_hB:rb≠ab2:=fun e=>by have:=hlb3;omega
 have nnab2_hX:bx≠ab2:=fun e=>by have:=hlb4;omega
 have nnab2_B1:w.heap.size≠ab2:=fun e=>by have:=hlb5;omega
 refine kI (vs:=[zi (dD s),.string (jG 20000 (aB s)),.string (jG 20000 (aH 20000 (aB s))),.string (jG 20000 (aH 20000 (aH 20000 (aB s)))),.bool (iM (aH 20000 (aH 20000 (aH 20000 (aB s))))),cP,cP]) hAB2 sizeOf109 s2 s13 rfl rfl fun w8 hAB2n O8 z8 =>?_
 have hab2x:bx<w1.heap.size:=hlb4
 have hnrab2:ab2≠rb:=by omega
 have lkhAB2_w:w.heap.size<=ab2:=by have:=m2.size;omega
 replace hAB2:=hAB2n
 have hB6:=hB6.only O8 (fun e=>nnab2_hB.symm e.symm)
 have hX:=hX.only O8 (fun e=>nnab2_hX.symm e.symm)
 have B1:=B1.only O8 (fun e=>nnab2_B1.symm e.symm)
 have m9:=m7.only O8 (.inr lkhAB2_w)
 refine hK _ _ ?_
 have hltt:=hAB2.lt
 have hltr:=hB6.lt
 have hltx:=hX.lt
 have hbase:=m9.size
 have htx:bx≠ab2:=by have:=hab2x;omega
 have hM2:∀ i,(i=rb\/i=ab2)->i<w8.heap.size:=fun i hi=>by rcases hi with hi | hi <;> omega
 refine CP (fun c W=>c=gK/\KM (fun i=>i=rb\/i=ab2) w8 W) (eE (V:=_::_::_::(rR aK.cells 2 (fun x:aK=>x.Fit) w8.heap.size)::_::_::_::(rR gI 1 (fun x:Int=>jO x) w8.heap.size)::_::(fun _ _=>True)::_::(fun _ _=>True)::[]) (M:=(fun i=>i=rb\/i=ab2)) (ch:=[3,7,9,11]) (L:=[(fun W=>dJ rb (aQ (aH 20000 (aH 20000 (aH 20000 (aB s))))) W/\Bk ab2 ([zi (dD s),.string (jG 20000 (aB s)),.string (jG 20000 (aH 20000 (aB s))),.string (jG 20000 (aH 20000 (aH 20000 (aB s)))),.bool (iM (aH 20000 (aH 20000 (aH 20000 (aB s))))),cP,cP]) 109 W),(fun W=>(eU nP (aQ (aH 20000 (aH 20000 (aH 20000 (aB s)))))).isSome=true/\dJ rb (eU nP (aQ (aH 20000 (aH 20000 (aH 20000 (aB s)))))) W/\Bk ab2 ([zi (dD s),.string (jG 20000 (aB s)),.string (jG 20000 (aH 20000 (aB s))),.string (jG 20000 (aH 20000 (aH 20000 (aB s)))),.bool (iM (aH 20000 (aH 20000 (aH 20000 (aB s))))),cP,cP]) 109 W),(fun W=>(eU aB (eU nP (aQ (aH 20000 (aH 20000 (aH 20000 (aB s))))))).isSome=true/\dJ rb (eU aB (eU nP (aQ (aH 20000 (aH 20000 (aH 20000 (aB s))))))) W/\Bk ab2 ([zi (dD s),.string (jG 20000 (aB s)),.string (jG 20000 (aH 20000 (aB s))),.string (jG 20000 (aH 20000 (aH 20000 (aB s)))),.bool (iM (aH 20000 (aH 20000 (aH 20000 (aB s))))),cP,cP]) 109 W),(fun W=>(eU aB (eU nP (aQ (aH 20000 (aH 20000 (aH 20000 (aB s))))))).isSome=true/\dJ rb (eU aB (eU nP (aQ (aH 20000 (aH 20000 (aH 20000 (aB s))))))) W/\∃ v,rR aK.cells 2 (fun x:aK=>x.Fit) w8.heap.size v W/\Bk ab2 (([zi (dD s),.string (jG 20000 (aB s)),.string (jG 20000 (aH 20000 (aB s))),.string (jG 20000 (aH 20000 (aH 20000 (aB s)))),.bool (iM (aH 20000 (aH 20000 (aH 20000 (aB s))))),cP,cP]).set 5 v) 109 W),(fun W=>(eU aB (eU nP (aQ (aH 20000 (aH 20000 (aH 20000 (aB s))))))).isSome=true/\dJ rb (eU aB (eU nP (aQ (aH 20000 (aH 20000 (aH 20000 (aB s))))))) W/\∃ v v',rR aK.cells 2 (fun x:aK=>x.Fit) w8.heap.size v W/\rR gI 1 (fun x:Int=>jO x) w8.heap.size v' W/\Bk ab2 ((([zi (dD s),.string (jG 20000 (aB s)),.string (jG 20000 (aH 20000 (aB s))),.string (jG 20000 (aH 20000 (aH 20000 (aB s)))),.bool (iM (aH 20000 (aH 20000 (aH 20000 (aB s))))),cP,cP]).set 5 v).set 6 v') 109 W)]) rfl ⟨aC,aC,aC,(stFQ hM2),aC,aC,aC,(stFQ hM2),aC,fI,aC,fI,trivial⟩ rfl rfl rfl (by intro P hP a b h k;simp only [aC0,aBy,or_false] at hP;rcases hP with rfl | rfl | rfl | rfl | rfl;exact ⟨aD3 h.1 k,h.2.below k⟩;exact ⟨h.1,aD3 h.2.1 k,h.2.2.below k⟩;exact ⟨h.1,aD3 h.2.1 k,h.2.2.below k⟩;obtain ⟨h1,h2,v,h3,h4⟩:=h;exact ⟨h1,aD3 h2 k,v,h3.km (aDr (M:=fun _=>False) k) (fun _ h=>h.elim),h4.below k⟩;obtain ⟨h1,h2,v,v',h3,h3',h4⟩:=h;exact ⟨h1,aD3 h2 k,v,v',h3.km (aDr (M:=fun _=>False) k) (fun _ h=>h.elim),h3'.km (aDr (M:=fun _=>False) k) (fun _ h=>h.elim),h4.below k⟩)) [] [1,2] (by kernel_rfl) rfl rfl (And.intro hB6 hAB2) (fun c g W ⟨e,hk⟩=>And.intro rfl (And.intro ((m9).next hk (fun i hi=>by rcases hi with hi | hi;exact .inl hi;exact .inr (by omega))) (Or.inr (Exists.intro c (And.intro rfl (And.intro e trivial)))))) (fun Sd=>⟨
  iG 0 Sd rfl fun hT q=>dV (q.trans s0) ((Bk.km hX hT (fun e=>e.elim hxr htx)).range) rfl,
  iG 0 Sd rfl fun hT q=>dV (q.trans s0) ((Bk.km hX hT (fun e=>e.elim hxr htx)).range) rfl,
  aP [1] Sd rfl fun h=>tX h.1,
  oc 0 [(0,14),(2,16)] [] rfl rfl rfl (by rintro g1 w1 hT ⟨h0,h2,-⟩ - ⟨hB0,hT0⟩;exact mZ (fst:=[]) (caps:=[]) rfl (dZ (a2 h0 h2)) aAb (KA rb (aQ (aH 20000 (aH 20000 (aH 20000 (aB s))))) w1 hB0 ((((((ho).rd).rdT).rdT).rdT).rdF)) (fun v W hk h=>by obtain ⟨e1,e2,e3⟩:=lX.q (base:=w8.heap.size) h (KM.size hT);exact And.intro (aD9 hk (fun _ _ h=>.inl h)) (And.intro e1 (And.intro e2 (And.intro e3 (Bk.km hT0 hk (fun e=>hnrab2 e)))))) (fun c W hk ⟨e,h1⟩=>⟨e,aD4 hT (aD9 hk (fun _ _ h=>.inl h))⟩)),
  iG 0 Sd rfl fun hT q=>dV (q.trans s0) ((Bk.km hX hT (fun e=>e.elim hxr htx)).range) rfl,
  iG 0 Sd rfl fun hT q=>dV (q.trans s0) ((Bk.km hX hT (fun e=>e.elim hxr htx)).range) rfl,
  aP [5] Sd rfl fun h=>tX h.1,
  oc 1 [(4,18),(6,20)] [] rfl rfl rfl (by rintro g1 w1 hT ⟨h4,h6,-⟩ - ⟨hs0,hB0,hT0⟩;exact mZ (fst:=[]) (caps:=[]) rfl (dZ (a2 h4 h6)) ZU (Kv rb (eU nP (aQ (aH 20000 (aH 20000 (aH 20000 (aB s)))))) w1 hB0 (((((((ho).rd).rdT).rdT).rdT).rdF).dec (bJ oN))) (fun v W hk h=>by obtain ⟨e1,e2,e3⟩:=lX.q (base:=w8.heap.size) h (KM.size hT);exact And.intro (aD9 hk (fun _ _ h=>.inl h)) (And.intro e1 (And.intro e2 (And.intro e3 (Bk.km hT0 hk (fun e=>hnrab2 e)))))) (fun c W hk ⟨e,h1⟩=>⟨e,aD4 hT (aD9 hk (fun _ _ h=>.inl h))⟩)),
  jA 2 Sd rfl fun q=>tE (q.trans s2),
  oc 2 [(8,22),(3,17)] [] rfl rfl rfl (by rintro g1 w1 hT ⟨h8,h3,-⟩ - ⟨hs0,hB0,hT0⟩;obtain ⟨lq,bq,cq,e,f1,f2,f3,f4⟩:=h3;exact BR hT0 sizeOf67 h8 e rfl rfl (fun W hB9 O z=>And.intro (aD0 O (.inr rfl)) (And.intro True.intro (And.intro hs0 (And.intro (aEa hB0 O (fun e=>hnrab2 e.symm)) (Exists.intro _ (And.intro (rR.km ⟨lq,bq,cq,rfl,f1,f2,f3,f4⟩ (aD0 (M:=fun i=>i=ab2) O rfl) (fun i hi=>by omega)) hB9))))))),
  jA 2 Sd rfl fun q=>tH (q.trans s2),
  oc 3 [(10,23),(7,21)] [] rfl rfl rfl (by rintro g1 w1 hT ⟨h10,h7,-⟩ - ⟨hs0,hB0,v5,hv5,hT0⟩;obtain ⟨lq,bq,cq,e,f1,f2,f3,f4⟩:=h7;exact BR hT0 sizeOf39 h10 e rfl rfl (fun W hB9 O z=>And.intro (aD0 O (.inr rfl)) (And.intro True.intro (And.intro hs0 (And.intro (aEa hB0 O (fun e=>hnrab2 e.symm)) (Exists.intro _ (Exists.intro _ (And.intro (hv5.km (aD0 (M:=fun i=>i=ab2) O rfl) (fun i hi=>by omega)) (And.intro (rR.km ⟨lq,bq,cq,rfl,f1,f2,f3,f4⟩ (aD0 (M:=fun i=>i=ab2) O rfl) (fun i hi=>by omega)) hB9))))))))),
  trivial⟩) ?_
 rintro g10 w10 k10 - ⟨o1,o2,-⟩ ⟨hsq,hB9,_,_,⟨le,be,ce,rfl,hffe,hnfe,hRfe,hofe⟩,⟨lr,br,cr,rfl,hffr,hnfr,hRfr,hofr⟩,hT9⟩
 have s1:=o1.trans s1
 have s2:=o2.trans s2
 have m11:KM (·=rb) w w10:=(m9).next k10 (fun i hi=>by rcases hi with hi | hi;exact .inl hi;exact .inr (by omega))
 have B1:=B1.km k10 (fun e=>e.elim (fun e=>hnrB1 e) (by have:=hab2;omega))
 have hbze:=hbase
 have hbzr:=hbase
 have hT9:Bk ab2 ([zi (dD s),.string (jG 20000 (aB s)),.string (jG 20000 (aH 20000 (aB s))),.string (jG 20000 (aH 20000 (aH 20000 (aB s)))),.bool (iM (aH 20000 (aH 20000 (aH 20000 (aB s))))),.slice be le.length ce,.slice br lr.length cr]) 109 w10:=hT9
 have hltb:w.heap.size<w8.heap.size:=by have:=hab2;omega
 refine rg (sq (AB s2 hT9.range rfl) (bR (vs:=[zi (dD s),.string (jG 20000 (aB s)),.string (jG 20000 (aH 20000 (aB s))),.string (jG 20000 (aH 20000 (aH 20000 (aB s)))),.bool (iM (aH 20000 (aH 20000 (aH 20000 (aB s))))),.slice be le.length ce,.slice br lr.length cr]) B1 sizeOf109 s1 rfl rfl rfl fun w12 B1n O12 z12 =>?_))
 replace B1:=B1n
 have hB9:=hB9.only O12 nhB_B1
 have hRfe:=hRfe.only O12 (fun e=>by have:=hofe _ e;omega)
 have hRfr:=hRfr.only O12 (fun e=>by have:=hofr _ e;omega)
 have m13:=m11.only O12 (.inr lkB1_w)
 refine nx (aE ?_)
 have hend:=m13.size
 have hownlt:∀ i,zC (⟨dD s,jG 20000 (aB s),jG 20000 (aH 20000 (aB s)),jG 20000 (aH 20000 (aH 20000 (aB s))),iM (aH 20000 (aH 20000 (aH 20000 (aB s)))),be,ce,le,br,cr,lr⟩:dI) i->w.heap.size<=i/\i<w12.heap.size:=fun i hi=>by rcases hi with hi | hi;exact ⟨aC7 hbze (hofe i hi),hRfe.lt i hi⟩;exact ⟨aC7 hbzr (hofr i hi),hRfr.lt i hi⟩
 exact tY (rW rfl s1 (vZ (cs:=dI.cells (⟨dD s,jG 20000 (aB s),jG 20000 (aH 20000 (aB s)),jG 20000 (aH 20000 (aH 20000 (aB s))),iM (aH 20000 (aH 20000 (aH 20000 (aB s)))),be,ce,le,br,cr,lr⟩:dI)) isAgg109 sizeOf109 B1)) ⟨m13,.inl ⟨_,rfl,(⟨dD s,jG 20000 (aB s),jG 20000 (aH 20000 (aB s)),jG 20000 (aH 20000 (aH 20000 (aB s))),iM (aH 20000 (aH 20000 (aH 20000 (aB s)))),be,ce,le,br,cr,lr⟩:dI),rfl,⟨⟨bZ _,tK _ ho.rd,tK _ ho.rd.rdT,tK _ ho.rd.rdT.rdT,hffe,hffr,hnfe,hnfr⟩,⟨hRfe,hRfr⟩⟩,hownlt,hsq,hB9⟩⟩
def Ov (l s:List Oper):Bool:=(match s[0]? with
 | some o=>(List.range l.length).all fun j=>(jY o).contains j||(jY o).any fun k=>decide (j<k)&&match (l++s)[k]? with | some q=>(jY q).contains j | none=>false
 | none=>true)&&(List.range s.length).all fun m=>match s[m+1]? with
 | some o=>(jY o).contains (l.length+m)
 | none=>true
section
variable {r:Option Nat} {n:Nat} {ds:List Deferred} {l s:List Oper} {T:World->World->Prop} {V:List (Value->World->Prop)} {ch:List Nat} {St:Nat->World->Prop} {Pn:List PanicEntry->World->Prop} {g:Nat->Value} {w:World} {Q:Exit->Act->World->Prop}
theorem rqDS {id : Nat} (S : cW l T V ch St) (he : Region.earlier .any (l ++ s).toArray = true) (hgd : iQ l = true) (hsq : Ov l s = true) (hns : s.all (fun o => o.guard.isNone) = true) (h0 : St 0 w)
    (hO : gA (gE n l T V ch St Pn g w) 0 l) (hpan : ∀ c g w, Pn c w → Q (.panic c) (fr n ds g) w) (hs0 : 0 < s.length)
    (hlast : ∀ g' w', uM l T V ch.length St g w g' w' → dY r (l ++ s).toArray Q s (fr n ds g') w') : Wp r (Code.region id (l ++ s).toArray true) Q (fr n ds g) w := by
  have hsq := (aB0 _ _).mp hsq
  have hsq0 : ∀ o, s[0]? = some o → ∀ j, j < l.length → j ∈ jY o ∨ ∃ k ∈ jY o, j < k ∧ ∃ q, (l ++ s)[k]? = some q ∧ j ∈ jY q := by
    intro o ho j hj
    have h1 := hsq.1
    simp only [ho] at h1
    have h2 := aB1.1 h1 j (aCw.2 hj)
    rcases (by simpa only [aCm] using h2 : _ ∨ _) with h2 | h2
    · exact .inl (by simpa using h2)
    · obtain ⟨k, hk, h3⟩ := aCc.1 h2
      simp only [aB0, aBq] at h3
      refine .inr ⟨k, hk, h3.1, ?_⟩
      cases hq : (l ++ s)[k]? with
      | none => rw [hq] at h3; cases h3.2
      | some q => rw [hq] at h3; exact ⟨q, rfl, by simpa using h3.2⟩
  have hsqS : ∀ m o, s[m + 1]? = some o → l.length + m ∈ jY o := by
    intro m o ho
    have hm : m + 1 < s.length := (List.getElem?_eq_some_iff.1 ho).1
    have h1 := aB1.1 hsq.2 m (aCw.2 (by omega))
    simp only [ho] at h1
    simpa using h1
  refine qP (Inv := fun listed a w1 => ((∀ j, l.length ≤ j → listed.getD j false = false) ∧ ∃ g1, a = fr n ds g1 ∧ QI l T V ch St g w (fun i => listed.getD i false) g1 w1) ∨ (∃ m, 0 < m ∧ m ≤ s.length ∧ (∀ j, j < l.length + m → listed.getD j false = true) ∧ (∀ j, l.length + m ≤ j → listed.getD j false = false) ∧ dY r (l ++ s).toArray Q (s.drop m) a w1)) he ?_ ?_ ?_
  · have hrep : ∀ i, (Array.replicate (l ++ s).toArray.size false).getD i false = false := fun i => by
      simp only [Array.getD_eq_getD_getElem?, Array.getElem?_replicate]
      split <;> rfl
    refine .inl ⟨fun j _ => hrep j, g, rfl, ?_⟩
    rw [show (fun i => (Array.replicate (l ++ s).toArray.size false).getD i false) = fun _ => false from funext hrep]
    exact QI.start S g w h0 (S.ofB (aDt _ _).drew) (S.sB _ h0 (aDt _ _).drew)
  · rintro listed a w1 i o1 hs hI ho hu hl
    have hi : i < listed.size := by rw [hs]; exact (Array.getElem?_eq_some_iff.1 ho).1
    have hil : i < l.length + s.length := by have : i < (l ++ s).toArray.size := by rw [← hs]; exact hi
                                             simpa using this
    have huF : listed.getD i false = false := by simpa [hi] using hu
    have hdeps : ∀ j ∈ jY o1, listed.getD j false = true := fun j hj => by
      unfold jY at hj
      obtain ⟨e, he2, rfl⟩ := aDc.1 hj
      have := aCn.1 he2
      exact hl e (by simpa using this.1) this.2
    have hset : ∀ j, j ≠ i → (listed.setIfInBounds i true).getD j false = listed.getD j false := fun j hj => by simp [Ne.symm hj]
    have hseti : (listed.setIfInBounds i true).getD i false = true := by simp [hi]
    have hols : l.length ≤ i → s[i - l.length]? = some o1 := fun hge => by
      have : (l ++ s)[i]? = some o1 := by simpa using ho
      rwa [List.getElem?_append_right hge] at this
    have hfin : ∀ m, i = l.length + m → (∀ j, j < l.length + m → listed.getD j false = true) → (∀ j, l.length + m < j → listed.getD j false = false) → dY r (l ++ s).toArray Q (s.drop m) a w1 →
        Region.wanted o1 (yielded (l ++ s).toArray a.tmps) = true ∧ Ow r o1 a w1 (fun a' w' => (((∀ j, l.length ≤ j → (listed.setIfInBounds i true).getD j false = false) ∧ ∃ g1, a' = fr n ds g1 ∧ QI l T V ch St g w (fun i_1 => (listed.setIfInBounds i true).getD i_1 false) g1 w') ∨ (∃ m, 0 < m ∧ m ≤ s.length ∧ (∀ j, j < l.length + m → (listed.setIfInBounds i true).getD j false = true) ∧ (∀ j, l.length + m ≤ j → (listed.setIfInBounds i true).getD j false = false) ∧ dY r (l ++ s).toArray Q (s.drop m) a' w'))) Q := by
      intro m him hlt hgt hw
      subst him
      have ho' : s[m]? = some o1 := by have := hols (by omega); rwa [show l.length + m - l.length = m from by omega] at this
      have hm : m < s.length := (List.getElem?_eq_some_iff.1 ho').1
      have hd : s.drop m = o1 :: s.drop (m + 1) := by
        rw [aAw hm]
        congr 1
        have := List.getElem?_eq_getElem hm
        rw [ho'] at this; exact (aCp this).symm
      have hg : o1.guard = none := by
        have := aB1.1 hns o1 (List.mem_of_getElem? ho')
        simpa using this
      refine ⟨by unfold Region.wanted; rw [hg], ?_⟩
      rw [hd] at hw
      have hw2 : Ow r o1 a w1 (dY r (l ++ s).toArray Q (s.drop (m + 1))) Q := by
        have h3 : wpListIn (FR r) 0 Tryz.prog (l ++ s).toArray Q (o1 :: s.drop (m + 1)) a w1 := hw
        unfold wpListIn at h3
        rw [show Region.wanted o1 (yielded (l ++ s).toArray a.tmps) = true from by unfold Region.wanted; rw [hg]] at h3
        simp only [if_true] at h3
        exact h3
      refine Oper.wpIn_mono (fun a' w' h' => .inr ⟨m + 1, by omega, by omega, fun j hj => ?_, fun j hj => ?_, h'⟩) hw2
      · by_cases e : j = l.length + m
        · subst e; exact hseti
        · rw [hset j e]; exact hlt j (by omega)
      · rw [hset j (by omega)]; exact hgt j (by omega)
    rcases hI with ⟨hm, g1, rfl, hI⟩ | ⟨m, hm0, hm1, hlt, hgt, hw⟩
    · rcases aDd i l.length with hlt | hge
      · have ho' : l[i]? = some o1 := by
          have : (l ++ s)[i]? = some o1 := by simpa using ho
          rwa [List.getElem?_append_left hlt] at this
        have hwant : ∀ t, Region.wanted o1 (yielded (l ++ s).toArray t) = Region.wanted o1 (yielded l.toArray t) := fun t => by
          unfold Region.wanted
          cases hg : o1.guard with
          | none => rfl
          | some kb =>
            obtain ⟨j, b⟩ := kb
            have hj : j < l.length := by
              have := aB1.1 hgd o1 (List.mem_of_getElem? ho')
              rw [hg] at this; simpa using this
            have e : (l ++ s).toArray[j]? = l.toArray[j]? := by simp [List.getElem?_append_left hj]
            unfold yielded
            simp only [e]
        rw [hwant]
        exact hI.step (r := r) S ho' huF hdeps (by have := oI hO i o1 ho'; rwa [aDa] at this) hpan
          (fun g' w' hI' => .inl ⟨fun j hj => by rw [hset _ (by omega)]; exact hm j hj, g', rfl, by
            have : (fun j => (listed.setIfInBounds i true).getD j false) = Fl (fun j => listed.getD j false) i := by
              funext j
              unfold Fl
              split
              · rename_i e; subst e; exact hseti
              · rename_i e; exact hset j e
            rw [this]; exact hI'⟩)
      · have hno : ∀ k, listed.getD k false = true → k < l.length := fun k hk => by
          rcases aDd k l.length with h | h
          · exact h
          · rw [hm k h] at hk; cases hk
        have ho' := hols hge
        have hi0 : i = l.length := by
          rcases aDd l.length i with h | h
          · rw [show i - l.length = (i - l.length - 1) + 1 from by omega] at ho'
            have := hno _ (hdeps _ (hsqS _ _ ho')); omega
          · omega
        have hall : ∀ j, j < l.length → listed.getD j false = true := fun j hj => by
          rw [show i - l.length = 0 from by omega] at ho'
          rcases hsq0 _ ho' j hj with h1 | ⟨k, hk, hjk, q, hq, hjq⟩
          · exact hdeps _ h1
          · have hkl := hno _ (hdeps _ hk)
            rw [List.getElem?_append_left hkl] at hq
            exact hI.cl k q hq (hdeps k hk) j hjq
        have hf := hfin 0 (by omega) (fun j hj => hall j (by omega)) (fun j hj => hm j (by omega)) (hlast g1 w1 (hI.ended S hall))
        rw [hf.1]; simp only [if_true]; exact hf.2
    · have hge : l.length + m ≤ i := by
        rcases aDd i (l.length + m) with h | h
        · rw [hlt i h] at huF; cases huF
        · exact h
      have ho' := hols (by omega)
      have hi0 : i = l.length + m := by
        rcases aDd (l.length + m) i with h | h
        · rw [show i - l.length = (i - l.length - 1) + 1 from by omega] at ho'
          have := hdeps _ (hsqS _ _ ho'); rw [hgt _ (by omega)] at this; cases this
        · omega
      have hf := hfin m hi0 hlt (fun j hj => hgt j (by omega)) hw
      rw [hf.1]; simp only [if_true]; exact hf.2
  · rintro listed a w1 hall hI
    rcases hI with ⟨hm, _⟩ | ⟨m, _, hm1, _, hgt, hw⟩
    · have := hall l.length (by simp; omega)
      rw [hm _ (aDl _)] at this; cases this
    · have hms : m = s.length := by
        rcases aDd m s.length with h | h
        · have := hall (l.length + m) (by simp; omega)
          rw [hgt _ (aDl _)] at this; cases this
        · omega
      rw [hms, aCd] at hw
      exact hw
end
section
variable {r:Option Nat} {n:Nat} {ds:List Deferred} {g:Nat->Value} {w:World} {Q:Exit->Act->World->Prop} {L:List Oper} {y:Code} {id:Nat} {V:List (Value->World->Prop)} {T:World->World->Prop} {ch:List Nat} {St:Nat->World->Prop} {Pn:List PanicEntry->World->Prop}
theorem eDS (m) (Pn:List PanicEntry->World->Prop) (S:cW (L.take m) T V ch St) (js:List (Nat × Nat)) (ss:List Nat) (hL:L=L.take m++L.drop m) (he:Region.earlier .any L.toArray=true) (hgd:iQ (L.take m)=true) (hsq:Ov (L.take m) (L.drop m)=true) (hns:(L.drop m).all (fun o=>o.guard.isNone)=true) (hs0:0<(L.drop m).length)
  (hjs:Fs (L.take m) js=true) (hss:ss.all (dB (L.take m))=true) (h0:St 0 w) (hpan:∀ c g w,Pn c w->Q (.panic c) (fr n ds g) w)
  (hO:cW (L.take m) T V ch St->gA (gE n (L.take m) T V ch St Pn g w) 0 (L.take m))
  (h:∀ g' w',T w w'->Fy V g' w' js->lI g g' ss->St ch.length w'->dY r L.toArray Q (L.drop m) (fr n ds g') w'):Wp r (Code.region id L.toArray true) Q (fr n ds g) w:=by
 have:=rqDS (r:=r) (n:=n) (ds:=ds) (Q:=Q) (g:=g) (w:=w) (id:=id) (Pn:=Pn) (l:=L.take m) (s:=L.drop m) S (by rw [<- hL];exact he) hgd hsq hns h0 (hO S) hpan hs0 fun g' w' hE=>by rw [<- hL];exact h g' w' hE.1 (yS hE hjs) (yA hE hss) hE.2.2.2
 rwa [<- hL] at this
theorem eQS (m) (V:List (Value->World->Prop)) (js:List (Nat × Nat)) (ss:List Nat) (hL:L=L.take m++L.drop m) (h1:iS (qL (L.take m))=true) (h2:Pr V) (he:Region.earlier .any (L.take m).toArray=true) (hgd:iQ (L.take m)=true) (hjs:Fs (L.take m) js=true) (hss:ss.all (dB (L.take m))=true)
  (hO:cW (L.take m) BT V [] Ei->gA (gE n (L.take m) BT V [] Ei RQ g w) 0 (L.take m))
  (h:∀ g' w',Below w.heap.size w w'->Fy V g' w' js->lI g g' ss->dY r L.toArray Q (L.drop m) (fr n ds g') w'):Wp r (Code.region id L.toArray false) Q (fr n ds g) w:=by
 refine yX ?_
 have:=lq (r:=r) (n:=n) (ds:=ds) (Q:=Q) (g:=g) (w:=w) (Pn:=RQ) (l:=L.take m) (r':=L.drop m) (lG h1 h2) he hgd trivial (hO (lG h1 h2)) (fun _ _ _ h=>h.elim) fun g' w' hE=>by rw [<- hL];exact h g' w' hE.1 (Cs hE hjs) (Cu hE hss)
 rwa [<- hL] at this
theorem sQS (m) (V:List (Value->World->Prop)) (js:List (Nat × Nat)) (ss:List Nat) (hL:L=L.take m++L.drop m) (h1:iS (qL (L.take m))=true) (h2:Pr V) (he:Region.earlier .any (L.take m).toArray=true) (hgd:iQ (L.take m)=true) (hjs:Fs (L.take m) js=true) (hss:ss.all (dB (L.take m))=true)
  (hO:cW (L.take m) BT V [] Ei->gA (gE n (L.take m) BT V [] Ei RQ g w) 0 (L.take m))
  (h:∀ g' w',Below w.heap.size w w'->Fy V g' w' js->lI g g' ss->dY r L.toArray (Exit.then (Wp r y Q) Q) (L.drop m) (fr n ds g') w'):Wp r ((Code.region id L.toArray false).seq y) Q (fr n ds g) w:=
 aF (eQS m V js ss hL h1 h2 he hgd hjs hss hO h)
end
section
variable {n:Nat} {g:Nat->Value} {w w':World} {Q:Exit->Act->List Frame->World->Prop} {ops:Array Oper} {rest:List Nat} {cs cs':List Frame} {d:Tmp} {op:Op} {ty:TypeId} {pos:String} {aft:Array Edge} {v:Value} {i:Nat} {x:Operand}
def wS (ops:Array Oper) (Q:Exit->Act->List Frame->World->Prop) (l:List Nat) (a:Act) (cs:List Frame) (w:World):Prop:=wpOpsSIn (FR none) 0 prog ops Q l a cs w
theorem KS (h:Q .normal (fr n [] g) cs w):wS ops Q [] (fr n [] g) cs w:=h
theorem CO (ho:ops[i]? = some ⟨some d,op,ty,pos,aft,none⟩) (hr:aL n g ⟨some d,op,ty,pos,aft,none⟩ w v) (h:wS ops Q rest (fr n [] (up g d v)) cs w):wS ops Q (i::rest) (fr n [] g) cs w:=by
 unfold wS wpOpsSIn
 rw [ho]
 have hr':(execOp (fr n [] g).eval ⟨some d,op,ty,pos,aft,none⟩).run prog w=.ok (.value v) w:=by rw [bV];exact hr
 have hw:Region.wanted ⟨some d,op,ty,pos,aft,none⟩ (yielded ops (fr n [] g).tmps)=true:=rfl
 simp only [hr',hw,if_true]
 refine ⟨fun _ _=>trivial,?_⟩
 rw [fF];exact h
theorem s_al (ho:ops[i]? = some ⟨some d,.alloc t,ty,pos,aft,none⟩) (hz:∀ w,(zeroValue t).run prog w=.ok z w) (hv:z.cells=cs0.toArray) (h:∀ w',Bk w.heap.size cs0 t w'->Below w.heap.size w w'->wS ops Q rest (fr n [] (up g d (pt w.heap.size 0))) cs w'):wS ops Q (i::rest) (fr n [] g) cs w:=by
 unfold wS wpOpsSIn
 rw [ho]
 have hr':(execOp (fr n [] g).eval ⟨some d,.alloc t,ty,pos,aft,none⟩).run prog w=.ok (.value (pt w.heap.size 0)) (w.alloc (.cells cs0.toArray t)):=by
  unfold execOp
  simp [hz,Instr.alloc,newVar,newRow,hv]
 have hw:Region.wanted ⟨some d,.alloc t,ty,pos,aft,none⟩ (yielded ops (fr n [] g).tmps)=true:=rfl
 simp only [hr',hw,if_true]
 refine ⟨fun _ _=>trivial,?_⟩
 rw [fF];exact h _ (Bk.new cs0 t w) (iF w _)
theorem Wq (ho:ops[i]? = some ⟨none,.store t x y,ty,pos,aft,none⟩) (hB:Bk b cs0 td w) (hs:∀ w,(sizeOf t).run prog w=.ok vs.length w) (hx:ev n g x=pt b j) (hy:ev n g y=.agg vs.toArray) (h1:vs.all (·.oneCell')=true) (hj:Nat.ble (j+vs.length) cs0.length=true)
  (h:∀ w',Bk b (qZ cs0 j vs) td w'->aS b w w'->wS ops Q rest (fr n [] g) cs w'):wS ops Q (i::rest) (fr n [] g) cs w:=by
 obtain ⟨w',hr',hB',hO,hz⟩:=gJ j vs 0 cs0 w hB h1 (aA1 hj)
 have hr:(execOp (fr n [] g).eval ⟨none,.store t x y,ty,pos,aft,none⟩).run prog w=.ok .skip w':=by
  rw [bV]
  unfold execOp
  simp [hx,hy,Instr.storeAt,Instr.sureAddr,storeVar,hs,Value.cells,hr']
 unfold wS wpOpsSIn
 rw [ho]
 have hw:Region.wanted ⟨none,.store t x y,ty,pos,aft,none⟩ (yielded ops (fr n [] g).tmps)=true:=rfl
 simp only [hr,hw,if_true]
 exact ⟨fun _ _=>trivial,h w' hB' hO⟩
theorem JJ (ho:ops[i]? = some ⟨some d,.call ⟨.builtin .recover,#[],#[]⟩,ty,pos,aft,none⟩) (hrec:(recoverD cs=some (v,cs'))\/(recoverD cs=none/\v=.nilIface/\cs'=cs)) (h:wS ops Q rest (fr n [] (up g d v)) cs' w):wS ops Q (i::rest) (fr n [] g) cs w:=by
 unfold wS wpOpsSIn
 rw [ho]
 have hr':(execOp (fr n [] g).eval ⟨some d,.call ⟨.builtin .recover,#[],#[]⟩,ty,pos,aft,none⟩).run prog w=.ok .recover w:=by
  unfold execOp
  simp [resolve, invoke, builtin, go_sem]
 have hw:Region.wanted ⟨some d,.call ⟨.builtin .recover,#[],#[]⟩,ty,pos,aft,none⟩ (yielded ops (fr n [] g).tmps)=true:=rfl
 simp only [hr',hw,if_true]
 refine ⟨fun _ _=>trivial,?_⟩
 rcases hrec with e | ⟨e,rfl,rfl⟩
 ·simp only [e];rw [fF];exact h
 ·simp only [e];rw [fF];exact h
end
theorem Wb: prog.underlying 42=some (.int .i64):=underlying42
section
variable {n:Nat} {g:Nat->Value} {w:World} {dd:Option Tmp} {ty:TypeId} {pos:String} {aft:Array Edge} {gd:Option (Nat × Bool)} {x:Operand} {v:Value}
theorem WP (hu:prog.underlying t=some (.int .i64)) (hx:ev n g x=.iface t v):aL n g ⟨dd,.typeAssert x 20 t true,ty,pos,aft,gd⟩ w (.tuple #[v,.bool true]):=by
 unfold aL execOp
 simp [hx,Instr.typeAssert,run_underlying hu]
theorem XP (hu:prog.underlying t=some (.int .i64)) (hz:∀ w,(zeroValue t).run prog w=.ok z w) (hx:ev n g x=.nilIface):aL n g ⟨dd,.typeAssert x 20 t true,ty,pos,aft,gd⟩ w (.tuple #[z,.bool false]):=by
 unfold aL execOp
 simp [hx,Instr.typeAssert,run_underlying hu,hz]
theorem Xi (hu:prog.underlying t=some (.struct fs)) (hx:ev n g x=.iface t v):aL n g ⟨dd,.typeAssert x 20 t true,ty,pos,aft,gd⟩ w (.tuple #[v,.bool true]):=by
 unfold aL execOp
 simp [hx,Instr.typeAssert,run_underlying hu]
theorem WO (hu:prog.underlying t=some (.struct fs)) (hz:∀ w,(zeroValue t).run prog w=.ok z w) (hx:ev n g x=.nilIface):aL n g ⟨dd,.typeAssert x 20 t true,ty,pos,aft,gd⟩ w (.tuple #[z,.bool false]):=by
 unfold aL execOp
 simp [hx,Instr.typeAssert,run_underlying hu,hz]
end
theorem recN {c:Frame} {cs:List Frame} (h:c.mode=.returning):recoverD (c::cs)=none:=by unfold recoverD;simp only [h]
theorem recY {c:Frame} {cs:List Frame} (h:c.mode=.panicking [{ v:=v,recovered:=false }]):recoverD (c::cs)=some (v,{ c with mode:=.panicking [{ v:=v,recovered:=true }] }::cs):=by unfold recoverD;simp only [h]
theorem Fh {u:FrameMode} {R:Ending->FrameMode->World->Prop} (hf:prog.funcs[f]? = some fn) (hb:fn.body=some c) (hn:fn.ntmps=n) (hs:args.length<=n)
  (h:∀ (c₀:Frame) (cs:List Frame),c₀.mode=u->c.wpSIn (FR none) 0 prog (bodyPostS prog fn c₀ cs R) (fr n [] (rK args)) (c₀::cs) w):CallsDIn (FR none) 0 prog f args.toArray u w R:=by
 refine callsDIn_of_wpSIn hf hb trivial fun c₀ cs hu=>?_
 have e:({ tmps:=args.toArray++Array.replicate (fn.ntmps - args.toArray.size) undef,defers:=[] }:Act)=fr n [] (rK args):=by
  unfold fr
  simp only [Act.mk.injEq,and_true]
  apply Array.ext_getElem?
  intro i
  rw [hn]
  by_cases h1:i<args.length
  ·simp [Array.getElem?_append,h1,rK,List.getElem?_range,aBi h1 hs]
  ·by_cases h2:i<n
   ·have:i - args.length<n - args.length:=by omega
    simp [Array.getElem?_append,h1,h2,this,rK,List.getElem?_range,Array.getElem?_replicate]
   ·have:¬ i - args.length<n - args.length:=by omega
    simp [Array.getElem?_append,h1,h2,this,List.getElem?_range,Array.getElem?_replicate]
 rw [e]
 exact h c₀ cs hu
theorem xW {id n:Nat} {g:Nat->Value} {w:World} {Q:Exit->Act->List Frame->World->Prop} {ops:Array Oper} {l:List Nat} {cs:List Frame} (hl:List.range ops.size=l) (h:wS ops Q l (fr n [] g) cs w):(Code.region id ops false).wpSIn (FR none) 0 prog Q (fr n [] g) cs w:=by
 refine wpSIn_region ?_
 rw [hl];exact h
theorem KU {Q:Exit->Act->List Frame->World->Prop} {cs:List Frame} (h:x.wpSIn (FR none) 0 prog (Exit.thenS (fun a cs w=>Wp none y (fun e a' w'=>Q e a' cs w') a w) Q) a cs w):(Code.seq x y).wpSIn (FR none) 0 prog Q a cs w:=by
 refine wpSIn_seq fun b k hk hr hF hroom =>?_
 obtain ⟨e,a',cs',w',hl,q,har⟩:=h b k hk hr hF hroom
 refine ⟨e,a',cs',w',hl,?_,har⟩
 cases e with
 | normal=>exact wpSIn_of_wpIn rfl q
 | exit id=>exact q
 | ret=>exact q
 | goto l=>exact q
 | panic c=>exact q
 | outgrown=>exact q
theorem Kc (bY be) (cy ce) (w) (hY:Bk bY cy 41 w) (hE:Bk be ce 42 w) (hyb:bY≠be):CallsDIn (FR none) 0 prog 11 [pt bY 0,pt be 0].toArray (.returning) w (fun e u w'=>e=.returned (.tuple #[])/\u=.returning/\KM (fun i=>i=bY\/i=be) w w'/\Bk bY cy 41 w'/\Bk be ce 42 w'):=by
 refine Fh (n:=12) func11 rfl ntmps11 (aA1 rfl) ?_
 intro c₀ cs hu
 refine KU (xW (l:=[0,1,2,3,4,5,6]) rfl (JJ rfl (.inr ⟨recN hu,rfl,rfl⟩) (CO (v:=.tuple #[aV,.bool false]) rfl (XP Wb zeroValue42 rfl) (CO (v:=.tuple #[aV,.bool false]) rfl aT (CO (v:=zi (0)) rfl (dT rfl rfl) ?_)))))
 refine CO (v:=.bool false) rfl (dT rfl rfl) (CO (v:=zi (0)) rfl kC (CO (v:=.bool false) rfl kC (KS ?_)))
 show Wp none _ _ _ _
 refine rg (aN (.bool false) rfl (nx (rM rfl (aG ?_))))
 exact ⟨rfl,.returning,by cases c₀;simp at hu;subst hu;rfl,.tuple #[],results_none rfl _ _ _,rfl,rfl,(aD8 _ _),hY,hE⟩
theorem Qh {g:Nat->Value} {ty:TypeId}    : aL n g ⟨dd,.build 41 #[],ty,pos,aft,gd⟩ w (.agg uC.toArray):=
 iA (ps:=[]) (by simp only [aC3,aDb];kernel_rfl)
theorem Vw (bY be) (n:Int) (w) (hY:Bk bY uC 41 w) (hE:Bk be [aV] 42 w) (hyb:bY≠be):CallsDIn (FR none) 0 prog 11 [pt bY 0,pt be 0].toArray (.panicking [{ v:=.iface 42 (zi n),recovered:=false }]) w (fun e u w'=>e=.returned (.tuple #[])/\u=.panicking [{ v:=.iface 42 (zi n),recovered:=true }]/\KM (fun i=>i=bY\/i=be) w w'/\Bk bY uC 41 w'/\Bk be [zi n] 42 w'):=by
 refine Fh (n:=12) func11 rfl ntmps11 (aA1 rfl) ?_
 intro c₀ cs hu
 refine KU (xW (l:=[0,1,2,3,4,5,6]) rfl (JJ rfl (.inl (recY hu)) (CO (v:=.tuple #[zi n,.bool true]) rfl (WP Wb rfl) (CO (v:=.tuple #[zi n,.bool true]) rfl aT (CO (v:=zi n) rfl (dT rfl rfl) ?_)))))
 refine CO (v:=.bool true) rfl (dT rfl rfl) (CO (v:=zi n) rfl kC (CO (v:=.bool true) rfl kC (KS ?_)))
 show Wp none _ _ _ _
 refine rg (aN (.bool true) rfl (nx (Ns rfl (eO (sq (Qh ) ?_)))))
 refine aN (zi n) rfl (bR (vs:=uC) hY sizeOf41 rfl rfl rfl rfl ?_)
 intro w1 hYn O1 z1
 replace hY:=hYn
 have hE:=hE.only O1 hyb.symm
 have m2:KM (fun i=>i=bY\/i=be) w w1:=(aD8 _ _).only O1 (.inl (.inl rfl))
 refine eP hE sizeOf42 rfl rfl rfl rfl ?_
 intro w3 hEn O3 z3
 replace hE:=hEn
 have hY:=hY.only O3 hyb
 have m4:KM (fun i=>i=bY\/i=be) w w3:=m2.only O3 (.inl (.inr rfl))
 refine nl ?_
 exact ⟨rfl,.panicking [{ v:=.iface 42 (zi n),recovered:=true }],rfl,.tuple #[],results_none rfl _ _ _,rfl,rfl,m4,hY,hE⟩
theorem My (bY be) (cy ce) (w) (hY:Bk bY cy 97 w) (hE:Bk be ce 101 w) (hyb:bY≠be):CallsDIn (FR none) 0 prog 129 [pt bY 0,pt be 0].toArray (.returning) w (fun e u w'=>e=.returned (.tuple #[])/\u=.returning/\KM (fun i=>i=bY\/i=be) w w'/\Bk bY cy 97 w'/\Bk be ce 101 w'):=by
 refine Fh (n:=12) func129 rfl ntmps129 (aA1 rfl) ?_
 intro c₀ cs hu
 refine KU (xW (l:=[0,1,2,3,4,5,6,7]) rfl (JJ rfl (.inr ⟨recN hu,rfl,rfl⟩) (CO (v:=.tuple #[.agg [aV,aV].toArray,.bool false]) rfl (WO underlying101 zeroValue101 rfl) (CO (v:=.tuple #[.agg [aV,aV].toArray,.bool false]) rfl aT (CO (v:=.agg [aV,aV].toArray) rfl (dT rfl rfl) ?_)))))
 refine CO (v:=.bool false) rfl (dT rfl rfl) (s_al (cs0:=[aV,aV]) rfl zeroValue101 rfl ?_)
 intro w1 hT1 k1
 have hl:=hY.lt;have hl2:=hE.lt
 refine Wq (vs:=[aV,aV]) rfl hT1 sizeOf101 rfl rfl rfl rfl ?_
 intro w2 hT2 O2
 have hY:=(hY.below k1).only O2 (by omega)
 have hE:=(hE.below k1).only O2 (by omega)
 have m2:KM (fun i=>i=bY\/i=be) w w2:=(aDr k1).only O2 (.inr (aDl _))
 refine CO (v:=.bool false) rfl kC (KS ?_)
 show Wp none _ _ _ _
 refine rg (aN (.bool false) rfl (nx (rM rfl (aG ?_))))
 exact ⟨rfl,.returning,by cases c₀;simp at hu;subst hu;rfl,.tuple #[],results_none rfl _ _ _,rfl,rfl,m2,hY,hE⟩
theorem bd97 {g:Nat->Value} {ty:TypeId}    : aL n g ⟨dd,.build 97 #[],ty,pos,aft,gd⟩ w (.agg Ij.toArray):=
 iA (ps:=[]) (by simp only [aC3,aDb];kernel_rfl)
theorem MT (bY be) (n:Int) (ln:Int) (w) (hY:Bk bY Ij 97 w) (hE:Bk be [aV,aV] 101 w) (hyb:bY≠be):CallsDIn (FR none) 0 prog 129 [pt bY 0,pt be 0].toArray (.panicking [{ v:=.iface 101 (.agg [zi n,zi ln].toArray),recovered:=false }]) w (fun e u w'=>e=.returned (.tuple #[])/\u=.panicking [{ v:=.iface 101 (.agg [zi n,zi ln].toArray),recovered:=true }]/\KM (fun i=>i=bY\/i=be) w w'/\Bk bY Ij 97 w'/\Bk be [zi n,zi ln] 101 w'):=by
 refine Fh (n:=12) func129 rfl ntmps129 (aA1 rfl) ?_
 intro c₀ cs hu
 refine KU (xW (l:=[0,1,2,3,4,5,6,7]) rfl (JJ rfl (.inl (recY hu)) (CO (v:=.tuple #[.agg [zi n,zi ln].toArray,.bool true]) rfl (Xi underlying101 rfl) (CO (v:=.tuple #[.agg [zi n,zi ln].toArray,.bool true]) rfl aT (CO (v:=.agg [zi n,zi ln].toArray) rfl (dT rfl rfl) ?_)))))
 refine CO (v:=.bool true) rfl (dT rfl rfl) (s_al (cs0:=[aV,aV]) rfl zeroValue101 rfl ?_)
 intro w1 hT1 k1
 have hl:=hY.lt;have hl2:=hE.lt
 refine Wq (vs:=[zi n,zi ln]) rfl hT1 sizeOf101 rfl rfl rfl rfl ?_
 intro w2 hT2 O2
 have hY:=(hY.below k1).only O2 (by omega)
 have hE:=(hE.below k1).only O2 (by omega)
 have m2:KM (fun i=>i=bY\/i=be) w w2:=(aDr k1).only O2 (.inr (aDl _))
 refine CO (v:=.bool true) rfl kC (KS ?_)
 show Wp none _ _ _ _
 refine rg (aN (.bool true) rfl (nx (Ns rfl ?_)))
 have hl:=hY.lt;have hl2:=hE.lt
 refine ZX 3 (fun _ _=>False) (eE (V:=_::_::(fun _ _=>True)::[]) (M:=fun i=>i=bY) (ch:=[2]) (L:=[(fun W=>Bk bY Ij 97 W),(fun W=>Bk bY Ij 97 W)]) rfl ⟨aC,aC,fI,trivial⟩ rfl rfl rfl (by intro P hP a b h k;simp only [aC0,aBy,or_false] at hP;rcases hP with rfl | rfl;exact aD3 h k;exact aD3 h k)) [(1,11)] [0,1] rfl (by kernel_rfl) rfl rfl rfl rfl rfl hY (fun _ _ _ h=>h.elim) (fun Sd=>⟨
  oW [] [] Sd rfl fun _ _ _ _ _=>dv (bd97 ) rfl,
  iG 2 Sd rfl fun hT q=>ld101 q ((Bk.km hT2 hT (fun e=>by omega)).range) rfl,
  oc 0 [(0,10)] [0] rfl rfl rfl (by rintro g1 w1 hT ⟨h0,-⟩ ⟨q0,-⟩ hB0;exact RZ (vs:=Ij) hB0 sizeOf97 q0 h0 rfl rfl (fun W hB9 O z=>And.intro (aD0 O rfl) (And.intro True.intro (by rw [Cz rfl] at hB9;exact hB9)))),
  trivial⟩) ?_
 rintro g9 w9 k9 ⟨s11,-⟩ ⟨o0,o1,-⟩ hY Kq hK
 have hE:=hE.km k9 (fun e=>hyb e.symm)
 refine kI (vs:=[zi n,zi ln]) hE sizeOf101 o1 s11 rfl rfl ?_
 intro w10 hEn O10 z10
 refine hK _ _ ?_
 exact ⟨rfl,.panicking [{ v:=.iface 101 (.agg [zi n,zi ln].toArray),recovered:=true }],rfl,.tuple #[],results_none rfl _ _ _,rfl,rfl,(m2.trans (k9.mono (fun _ _ h=>.inl h))).only O10 (.inl (.inr rfl)),hY.only O10 hyb,hEn⟩
def Yq (e ln:Int):List PanicEntry:=[{ v:=.iface 101 (.agg [zi e,zi ln].toArray),recovered:=false }]
def gO (c:List PanicEntry):Prop:=∃ e ln,c=Yq e ln
theorem SQ: prog.concrete 101=true:=by kernel_rfl
theorem TN {g:Nat->Value} {ty:TypeId} (hx:ev n g x=v):aL n g ⟨dd,.makeInterface 101 x,ty,pos,aft,gd⟩ w (.iface 101 v):=by
 unfold aL execOp
 simp [hx,run_makeInterface w 101 v SQ]
def srC (x:bS) (ln:Int) (mb:Nat):List Value:=bS.cells x++[zi ln,.map (some mb)]
def bX (x:bS) (i:Nat):Prop:=x.va.ownBlock=some i\/x.vm.ownBlock=some i\/x.vd.ownBlock=some i\/x.vu.ownBlock=some i
structure mV (base:Nat) (x:bS) (w:World):Prop where
 a:w.ownsRow base 245 2 x.va x.c.after.length (x.c.after.flatMap nD)
 m:w.ownsRow base 220 5 x.vm x.c.make.length (x.c.make.flatMap fZ)
 d:w.ownsRow base 9 1 x.vd x.c.drop.length (sv x.c.drop)
 u:w.ownsRow base 9 1 x.vu x.c.use.length (sv x.c.use)
 am:∀ i,x.va.ownBlock=some i->x.vm.ownBlock≠some i
 ad:∀ i,x.va.ownBlock=some i->x.vd.ownBlock≠some i
 au:∀ i,x.va.ownBlock=some i->x.vu.ownBlock≠some i
 md:∀ i,x.vm.ownBlock=some i->x.vd.ownBlock≠some i
 mu:∀ i,x.vm.ownBlock=some i->x.vu.ownBlock≠some i
 du:∀ i,x.vd.ownBlock=some i->x.vu.ownBlock≠some i
theorem mV.km {x:bS} {M:Nat->Prop} (h:mV base x A) (k:KM M A B) (hM:∀ i,bX x i->¬ M i):mV base x B:=
 { h with a:=cY h.a k (fun i hi=>hM i (.inl hi)),m:=cY h.m k (fun i hi=>hM i (.inr (.inl hi))),d:=cY h.d k (fun i hi=>hM i (.inr (.inr (.inl hi)))),u:=cY h.u k (fun i hi=>hM i (.inr (.inr (.inr hi)))) }
theorem mV.below {x:bS} (h:mV base x A) (k:Below A.heap.size A B):mV base x B:=h.km (aDr (M:=fun _=>False) k) (fun _ _ h=>h)
theorem mV.ge {x:bS} (h:mV base x w):∀ i,bX x i->base<=i/\i<w.heap.size:=fun i hi=>by
 rcases hi with hi | hi | hi | hi
 ·exact ⟨aM h.a i hi,bA h.a i hi⟩
 ·exact ⟨aM h.m i hi,bA h.m i hi⟩
 ·exact ⟨aM h.d i hi,bA h.d i hi⟩
 ·exact ⟨aM h.u i hi,bA h.u i hi⟩
structure SR (rr mb base:Nat) (x:bS) (ln:Int) (w:World):Prop where
 blk:Bk rr (srC x ln mb) 215 w
 rows:mV base x w
 rb:rr<base
theorem SR.below {x:bS} {ln:Int} (h:SR rr mb base x ln A) (k:Below A.heap.size A B):SR rr mb base x ln B:=⟨h.blk.below k,h.rows.below k,h.rb⟩
theorem SR.km {x:bS} {ln:Int} {M:Nat->Prop} (h:SR rr mb base x ln A) (k:KM M A B) (h1:¬ M rr) (hM:∀ i,bX x i->¬ M i):SR rr mb base x ln B:=⟨h.blk.km k h1,h.rows.km k hM,h.rb⟩
theorem xP {g:Nat->Value} {ty:TypeId} {a1:Int} {a2:Int} (h0:ev n g x0=zi a1) (h1:ev n g x1=zi a2):aL n g ⟨dd,.build 101 #[(0,x0),(1,x1)],ty,pos,aft,gd⟩ w (.agg [zi a1,zi a2].toArray):=
 iA (ps:=[(0,x0),(1,x1)]) (by simp only [aC3,aDb,h0,h1];kernel_rfl)
theorem FO (rr mb) (x) (ln e:Int) (w) (hR:Bk rr (srC x ln mb) 215 w):gB (fun _=>False) 134 [pt rr 0,zi e] w (fun _ _=>False) (fun c _=>c=Yq e ln):=by
 exact aJ (n:=11) func134 rfl ntmps134 (aA1 rfl) (eO (aN (zi e) rfl (aN (pt rr (0)) rfl (sq (dF rfl) (sq (KI rfl) (sq (EI rfl (hR.cell 12 rfl)) (sq (xP rfl rfl) (sq (TN rfl) (Lf rfl (And.intro rfl (And.intro (aD8 _ _) (Or.inr (Exists.intro _ (And.intro rfl rfl))))))))))))))
theorem oK (rr mb) (x) (ln:Int) (b:Bool) (w) (hR:Bk rr (srC x ln mb) 215 w):gB (fun _=>False) 136 [pt rr 0,.bool b] w (fun _ _=>b=true) (fun c _=>b=false/\c=Yq 150 ln):=by
 refine aJ (n:=8) func136 rfl ntmps136 (aA1 rfl) (rg (aN (.bool b) rfl (sq (cJ rfl) (nx ?_))))
 refine cd rfl (fun c1=>?_) (fun c1=>?_)
 ·
  refine eO (aN (pt rr (0)) rfl (vY (fst:=[]) (caps:=[]) VW rfl (dZ (a2 rfl rfl)) (FO rr mb x ln 150 _ hR) (fun cP2 w2 k2 hP2=>And.intro rfl (And.intro (((aD8 _ _)).trans k2) (Or.inr (Exists.intro cP2 (And.intro rfl (And.intro (by simpa using c1) hP2)))))) ?_))
  rintro v2 w2 k2 hF
  exact hF.elim
 ·
  exact aG (fV rfl ⟨(aD8 _ _),.inl ⟨_,rfl,by simpa using c1⟩⟩)
theorem rA (rr mb) (x) (ln:Int) (s) (a b:Int) (w) (hR:Bk rr (srC x ln mb) 215 w) (hs:s.size<=1000000):gB (fun _=>False) 223 [pt rr 0,.string s,zi a,zi b] w (fun v _=>∃ n,v=zi n/\a<=n/\n<=b) (fun c _=>gO c):=by
 refine aJ (n:=31) func223 rfl ntmps223 (aA1 rfl) (rg (bU (nx (rg (aN (.string s) rfl (cE en245 (a1 rfl) (oM (CA s _ (by omega))) ?_))))))
 rintro _ w1 k1 rfl
 have hR:=hR.below k1
 have m2:KM (fun _=>False) w w1:=aDr k1
 refine aN (.tuple #[zi (vS s.data.toList),zi (zG s.data.toList)]) rfl (sq (dT rfl rfl) (sq (dT rfl rfl) (aW (zi (vS s.data.toList)) rfl (aW (zi (zG s.data.toList)) rfl (nx ?_)))))
 refine sQS 13 (_::_::_::_::_::_::_::_::_::_::_::_::_::[]) [(0,16),(12,28)] [8,9] rfl rfl ⟨aA,aA,aA,aA,aD aA,aD aA,aD aA,aA,aA,aD aA,aD aA,aD aA,aA,trivial⟩ (by kernel_rfl) rfl rfl rfl (fun Sd=>⟨
  bF Sd rfl rfl,
  bF Sd rfl rfl,
  aP [1] Sd rfl fun h=>eZ h.1 rfl,
  oW [(2,18)] [] Sd rfl fun _ _ _ h _=>dv aT h.1,
  iP Sd rfl rfl,
  iP Sd rfl rfl,
  dM [4,5] Sd rfl fun e _ h=>nU (h.1.1 e) (h.2.1.1 e),
  aP [3,6] Sd rfl fun h=>cG h.1 (fun c=>h.2.1.1 c),
  oW [(7,23)] [] Sd rfl fun _ _ _ h _=>dv aT h.1,
  iP Sd rfl rfl,
  iP Sd rfl rfl,
  dM [9,10] Sd rfl fun e _ h=>xV (h.1.1 e) (h.2.1.1 e),
  aP [8,11] Sd rfl fun h=>cG h.1 (fun c=>h.2.1.1 c),
  trivial⟩) ?_
 rintro g3 w3 k3 ⟨s16,s28,-⟩ ⟨o8,o9,-⟩
 have s9:g3 9=zi (vS s.data.toList):=o9.trans rfl
 have hR:=hR.below k3
 have m4:KM (fun _=>False) w w3:=m2.below k3
 refine vY (fst:=[]) (caps:=[]) Cx rfl (dZ (a2 s16 s28)) (oK rr mb x ln _ _ hR) (fun cP5 w5 k5 hP5=>And.intro rfl (And.intro ((m4).next k5 (fun i h=>h.elim)) (Or.inr (Exists.intro cP5 (And.intro rfl ⟨_,_,hP5.2⟩))))) ?_
 rintro v5 w5 k5 hnd
 have m6:KM (fun _=>False) w w5:=m4.next k5 (fun i h=>h.elim)
 refine nx (rg (bI s9 (aW (zi (vS s.data.toList)) rfl (nx (aE ?_)))))
 simp only [aB0,aBq] at hnd
 exact fO rfl ⟨m6,.inl ⟨_,rfl,_,rfl,hnd.1.2,hnd.2⟩⟩
theorem PX (rr mb base) (x) (ln:Int) (s) (w) (hS:SR rr mb base x ln w) (hs:s.size<=1000000):gB (·=rr) 177 [pt rr 0,.string s] w (fun _ w'=>True/\SR rr mb base ({ x with c:={ x.c with user:=s } }:bS) ln w') (fun c _=>gO c):=by
 have hR:=hS.blk
 refine aJ (n:=9) func177 rfl ntmps177 (aA1 rfl) (eO (aN (pt rr (0)) rfl (aN (.string s) rfl (sq (dF rfl) (sq (fU rfl) (sq (JF rfl) (eP hR sizeOf9 rfl rfl rfl rfl fun w1 hRn O1 z1 =>?_)))))))
 replace hR:=hRn
 have m2:KM (·=rr) w w1:=(aD8 _ _).only O1 (.inl rfl)
 refine nl ?_
 have hq:=hS.rows.km m2 (fun i hi (e:i=rr)=>by have:=(hS.rows.ge i hi).1;have:=hS.rb;omega)
 exact fV rfl ⟨m2,.inl ⟨_,rfl,trivial,hR,⟨hq.a,hq.m,hq.d,hq.u,hq.am,hq.ad,hq.au,hq.md,hq.mu,hq.du⟩,hS.rb⟩⟩
theorem Mq (rr mb base) (x) (ln:Int) (s) (w) (hS:SR rr mb base x ln w) (hs:s.size<=1000000):gB (·=rr) 178 [pt rr 0,.string s] w (fun _ w'=>∃ m:Int,(1<=m/\m<=64)/\SR rr mb base ({ x with c:={ x.c with nodes:=m } }:bS) ln w') (fun c _=>gO c):=by
 have hR:=hS.blk
 refine aJ (n:=11) func178 rfl ntmps178 (aA1 rfl) (eO (aN (pt rr (0)) rfl (aN (pt rr (0)) rfl (aN (.string s) rfl (vY (fst:=[]) (caps:=[]) KW rfl (dZ (a4 rfl rfl rfl rfl)) (rA rr mb x ln s 1 64 _ hR hs) (fun cP1 w1 k1 hP1=>And.intro rfl (And.intro (((aD8 _ _)).next k1 (fun i h=>h.elim)) (Or.inr (Exists.intro cP1 (And.intro rfl hP1))))) ?_)))))
 rintro v1 w1 k1 ⟨m,rfl,hm0,hm1⟩
 have hR:=hR.km k1 (fun h=>h)
 have m2:KM (·=rr) w w1:=(aD8 _ _).next k1 (fun i h=>h.elim)
 refine sq (dF rfl) (sq (fU rfl) (sq (Hz rfl) (eP hR sizeOf2 rfl rfl rfl rfl fun w3 hRn O3 z3 =>?_)))
 replace hR:=hRn
 have m4:=m2.only O3 (.inl rfl)
 refine nl ?_
 have hq:=hS.rows.km m4 (fun i hi (e:i=rr)=>by have:=(hS.rows.ge i hi).1;have:=hS.rb;omega)
 exact fV rfl ⟨m4,.inl ⟨_,rfl,m,⟨hm0,hm1⟩,hR,⟨hq.a,hq.m,hq.d,hq.u,hq.am,hq.ad,hq.au,hq.md,hq.mu,hq.du⟩,hS.rb⟩⟩
theorem Ny (rr mb base) (x) (ln:Int) (s) (w) (hS:SR rr mb base x ln w) (hs:s.size<=1000000):gB (·=rr) 179 [pt rr 0,.string s] w (fun _ w'=>∃ m:Int,(1<=m/\m<=1048576)/\SR rr mb base ({ x with c:={ x.c with wall:=m } }:bS) ln w') (fun c _=>gO c):=by
 have hR:=hS.blk
 refine aJ (n:=11) func179 rfl ntmps179 (aA1 rfl) (eO (aN (pt rr (0)) rfl (aN (pt rr (0)) rfl (aN (.string s) rfl (vY (fst:=[]) (caps:=[]) KW rfl (dZ (a4 rfl rfl rfl rfl)) (rA rr mb x ln s 1 1048576 _ hR hs) (fun cP1 w1 k1 hP1=>And.intro rfl (And.intro (((aD8 _ _)).next k1 (fun i h=>h.elim)) (Or.inr (Exists.intro cP1 (And.intro rfl hP1))))) ?_)))))
 rintro v1 w1 k1 ⟨m,rfl,hm0,hm1⟩
 have hR:=hR.km k1 (fun h=>h)
 have m2:KM (·=rr) w w1:=(aD8 _ _).next k1 (fun i h=>h.elim)
 refine sq (dF rfl) (sq (fU rfl) (sq (Ig rfl) (eP hR sizeOf2 rfl rfl rfl rfl fun w3 hRn O3 z3 =>?_)))
 replace hR:=hRn
 have m4:=m2.only O3 (.inl rfl)
 refine nl ?_
 have hq:=hS.rows.km m4 (fun i hi (e:i=rr)=>by have:=(hS.rows.ge i hi).1;have:=hS.rb;omega)
 exact fV rfl ⟨m4,.inl ⟨_,rfl,m,⟨hm0,hm1⟩,hR,⟨hq.a,hq.m,hq.d,hq.u,hq.am,hq.ad,hq.au,hq.md,hq.mu,hq.du⟩,hS.rb⟩⟩
theorem TV (rr mb base) (x) (ln:Int) (s) (w) (hS:SR rr mb base x ln w) (hs:s.size<=1000000):gB (·=rr) 180 [pt rr 0,.string s] w (fun _ w'=>∃ m:Int,(0<=m/\m<=9)/\SR rr mb base ({ x with c:={ x.c with qos:=m } }:bS) ln w') (fun c _=>gO c):=by
 have hR:=hS.blk
 refine aJ (n:=11) func180 rfl ntmps180 (aA1 rfl) (eO (aN (pt rr (0)) rfl (aN (pt rr (0)) rfl (aN (.string s) rfl (vY (fst:=[]) (caps:=[]) KW rfl (dZ (a4 rfl rfl rfl rfl)) (rA rr mb x ln s 0 9 _ hR hs) (fun cP1 w1 k1 hP1=>And.intro rfl (And.intro (((aD8 _ _)).next k1 (fun i h=>h.elim)) (Or.inr (Exists.intro cP1 (And.intro rfl hP1))))) ?_)))))
 rintro v1 w1 k1 ⟨m,rfl,hm0,hm1⟩
 have hR:=hR.km k1 (fun h=>h)
 have m2:KM (·=rr) w w1:=(aD8 _ _).next k1 (fun i h=>h.elim)
 refine sq (dF rfl) (sq (fU rfl) (sq (Ex rfl) (eP hR sizeOf2 rfl rfl rfl rfl fun w3 hRn O3 z3 =>?_)))
 replace hR:=hRn
 have m4:=m2.only O3 (.inl rfl)
 refine nl ?_
 have hq:=hS.rows.km m4 (fun i hi (e:i=rr)=>by have:=(hS.rows.ge i hi).1;have:=hS.rb;omega)
 exact fV rfl ⟨m4,.inl ⟨_,rfl,m,⟨hm0,hm1⟩,hR,⟨hq.a,hq.m,hq.d,hq.u,hq.am,hq.ad,hq.au,hq.md,hq.mu,hq.du⟩,hS.rb⟩⟩
def Yr (T:World->World->Prop) (li:Nat):Nat->List (Value->World->Prop)->Prop
 | _,[]=>True
 | k,P::r=>(CW BT P/\(Nat.beq k li=false->CW T P))/\Yr T li (k+1) r
theorem nZ {M:Nat->Prop} {P:Value->World->Prop} {b:Bool} (h:CW (KM M) P):CW BT P/\(b=false->CW (KM M) P):=⟨fun v a b hv hb=>h v a b hv (aDr hb),fun _=>h⟩
theorem KV {T : World → World → Prop} {li : Nat} : ∀ {V : List (Value → World → Prop)} {k : Nat}, Yr T li k V → ∀ i v (a b : World), kH V i v a → (Below a.heap.size a b ∨ (T a b ∧ k + i ≠ li)) → kH V i v b
  | [], _, _, _, _, _, _, hv, _ => by unfold kH at *; simpa using hv
  | P :: r, k, ⟨h1, h2⟩, 0, v, a, b, hv, hb => by
    rcases hb with hb | ⟨hb, hn⟩
    · exact h1.1 v a b hv hb
    · exact h1.2 (by have : k ≠ li := by simpa using hn
                     exact Bool.eq_false_iff.2 (fun e => this (Nat.eq_of_beq_eq_true e))) v a b hv hb
  | P :: r, k, ⟨h1, h2⟩, i + 1, v, a, b, hv, hb => KV h2 i v a b hv (hb.imp id fun h => ⟨h.1, by have := h.2; omega⟩)
theorem Cm {V:List (Value->World->Prop)} {M:Nat->Prop} {P P1:World->Prop} (h1:iS (qL l)=true) (h2:Yr (KM M) li 0 V) (h4:Nat.blt li l.length=true)
  (h6:∀ a b:World,P a->Below a.heap.size a b->P b) (h7:∀ a b:World,P1 a->Below a.heap.size a b->P1 b):cW l (KM M) V [li] (stn [P,P1]) where
 dst:=h1
 chn:=rfl
 chl:=by rw [aDw] at h4;simpa using h4
 chain:=rfl
 tr:=fun h k=>h.trans k
 ofB:=fun h=>aDr h
 vT:=fun i v a b hv hb=>KV h2 i v a b hv (hb.imp id fun h=>⟨h.1,fun e=>h.2 (by simp;omega)⟩)
 sB:=fun k a b ha hb=>by
  unfold stn at *
  match k with
  | 0=>exact h6 _ _ ha hb
  | 1=>exact h7 _ _ ha hb
  | k+2=>trivial
section
variable {n:Nat} {g:Nat->Value} {w:World} {ty:TypeId} {pos:String} {aft:Array Edge} {dd:Option Tmp} {x y:Operand} {t:TypeId} {gd:Option (Nat × Bool)} {Pn:List PanicEntry->World->Prop} {R':Value->World->Prop}
theorem Sc {e sz bytes:Nat} (hu:prog.underlying t=some (.slice e)) (hi:(prog.info? e).map (fun i=>(i.zero,i.size,i.bytes))=some (some z,sz,bytes)) (hs:Nat.ble sz 16777216=true) (hp:Nat.beq sz 0=false)
  (hx:ev n g x=v) (hv:v.cells=cs.toArray) (hc:cs.length=sz) (h:∀ w',Bk w.heap.size cs e w'->Below w.heap.size w w'->R' (.slice (some ⟨w.heap.size,0,none⟩) 1 1) w'):tV n g ⟨dd,.buildSlice t 1 #[(0,x)],ty,pos,aft,gd⟩ w Pn R':=by
 obtain ⟨i0,hi0,hz0,hz1,hz2⟩:=info_parts hi
 refine .inl ⟨.slice (some ⟨w.heap.size,0,none⟩) 1 1,w.alloc (.cells cs.toArray e),?_,h _ (Bk.new cs e w) (iF w _)⟩
 have hs':¬ 1*i0.size>2 ^ 24:=by rw [hz1];have:=aA1 hs;omega
 have hp':¬ 1*i0.size=0:=by rw [hz1];intro e;rw [Nat.one_mul] at e;rw [e] at hp;cases hp
 have hf:=We (sz:=i0.size) (cs:=cs) (zs:=(Array.range (1*i0.size)).map (z.cells[· % z.cells.size]!)) (by rw [hz1];exact hc) (by simp)
 have hb:=run_buildSlice (P:=prog) w t e 1 #[(0,ev n g x)] cs.toArray i0 z hu hi0 hz0 hs' hp' (by
  have e0:(ev n g x).cells=(Value.agg cs.toArray).cells:=by rw [hx,hv];rfl
  have e1:∀ zs:Array Value,Instr.fill (fun i=>some (i*i0.size,i0.size)) zs [(0,ev n g x)]=Instr.fill (fun i=>some (i*i0.size,i0.size)) zs [(0,.agg cs.toArray)]:=fun zs=>by
   unfold Instr.fill
   simp only [e0]
  exact (e1 _).trans hf)
 unfold execOp
 simp [hb]
theorem Ts {base e sz bytes:Nat} (hu:prog.underlying t=some (.slice e)) (hi:(prog.info? e).map (fun i=>(i.zero,i.size,i.bytes))=some (some z,sz,bytes)) (hz:z.cells.size=sz) (hp:0<sz)
  (hs:ev n g x=v) (hown:w.ownsRow base e sz v k xs) (hx:ev n g y=.slice (some ⟨b,o,none⟩) m c) (hn:news.length=m*sz) (hr:w.rangeAt b o news) (h1:news.all (·.oneCell')=true) (b1:k+m<=maxLen) (b2:(k+m)*bytes<=140737488355328) (b3:base<=w.heap.size)
  (h:∀ v' w',w'.ownsRow base e sz v' (k+m) (xs++news)->KM (fun i=>v.ownBlock=some i) w w'->(v'.ownBlock=v.ownBlock\/v'.ownBlock=some w.heap.size)->R' v' w'):
  tV n g ⟨dd,.call ⟨.builtin .append,#[x,y],#[t,t]⟩,ty,pos,aft,gd⟩ w Pn R':=by
 obtain ⟨i0,hi0,hz0,hz1,hz2⟩:=info_parts hi
 obtain ⟨v',w',hr',h2,h3,h4,h5⟩:=run_append_own_at (P:=prog) w base t ty e i0 z sz bytes hu hi0 hz0 hz1 hz2 hz hp v k xs hown ⟨b,o,none⟩ m c news hn (fun j u hu=>by rw [aDf];exact hr j u hu) (fun u hu=>aB1.1 h1 u hu) b1 b2 b3
 refine .inl ⟨v',w',?_,h v' w' h2 ⟨h3.os,h3.tape,h3.output,h3.size,fun i hi hM=>h3.block i hi (fun e=>hM e.symm)⟩ h5⟩
 simp [execOp,resolve,invoke,builtin,hs,hx,hr',Result.andThen]
end
theorem zV (sep s) (w) (hm:lY w) (hs:s.size<4294967281) (h1:1<=sep.size):cT 176 [.string s,.string sep] w fun v w'=>v=.slice (some ⟨w.heap.size,0,none⟩) (aI sep s).length (aI sep s).length/\Bk w.heap.size (sv (aI sep s)) 9 w'/\w'.heap.size=w.heap.size+1:=by
 refine (Dj sep s w hm hs h1 _ (aEb rfl)).mono ?_
 rintro e w' ⟨rfl,rfl⟩
 exact ⟨_,rfl,iF w _,rfl,Bk.new _ 9 w,by simp⟩
theorem JV (s) (c:UInt8) (w) (hm:lY w) (hs:s.size<4294967281):cT 182 [.string s,.string ⟨#[c]⟩] w fun v _=>v=.tuple [.string (fP s c).1,.string (fP s c).2.1,.bool (fP s c).2.2].toArray:=
 oM (JX s c w hm hs _ _ _ (aEb rfl))
theorem SR.grow_a {x:bS} {ln:Int} {l:List (Int × Bool)} (h:SR rr mb base x ln A) (k:KM (fun i=>i=rr\/x.va.ownBlock=some i) A B) (hn:l.length=n) (hB:Bk rr [.string x.c.user,zi x.c.nodes,zi x.c.wall,zi x.c.qos,.slice b n c,zi x.c.cap,zi x.c.inn,zi x.c.out,.string x.c.pool,x.vm,x.vd,x.vu,zi ln,.map (some mb)] 215 B)
  (hO:B.ownsRow base 245 2 (.slice b n c) n (l.flatMap nD)) (ho:(Value.slice b n c).ownBlock=x.va.ownBlock\/∃ s,(Value.slice b n c).ownBlock=some s/\A.heap.size<=s):SR rr mb base { x with c:={ x.c with after:=l },ab:=b,ac:=c } ln B:=by
 subst hn
 exact ⟨hB,{ a:=hO,m:=cY h.rows.m k fun i hi e=>e.elim (fun e=>by have:=(h.rows.ge i (.inr (.inl hi))).1;have:=h.rb;omega) (fun e=>h.rows.am i e hi),d:=cY h.rows.d k fun i hi e=>e.elim (fun e=>by have:=(h.rows.ge i (.inr (.inr (.inl hi)))).1;have:=h.rb;omega) (fun e=>h.rows.ad i e hi),u:=cY h.rows.u k fun i hi e=>e.elim (fun e=>by have:=(h.rows.ge i (.inr (.inr (.inr hi)))).1;have:=h.rb;omega) (fun e=>h.rows.au i e hi),am:=fun i hi e=>ho.elim (fun h1=>h.rows.am i (h1 ▸ hi) e) (fun ⟨s,h1,h2⟩=>by have q:some s=some i:=h1.symm.trans hi;cases q;have:=bA h.rows.m _ e;omega),ad:=fun i hi e=>ho.elim (fun h1=>h.rows.ad i (h1 ▸ hi) e) (fun ⟨s,h1,h2⟩=>by have q:some s=some i:=h1.symm.trans hi;cases q;have:=bA h.rows.d _ e;omega),au:=fun i hi e=>ho.elim (fun h1=>h.rows.au i (h1 ▸ hi) e) (fun ⟨s,h1,h2⟩=>by have q:some s=some i:=h1.symm.trans hi;cases q;have:=bA h.rows.u _ e;omega),md:=h.rows.md,mu:=h.rows.mu,du:=h.rows.du },h.rb⟩
theorem SR.grow_m {x:bS} {ln:Int} {l:List dN} (h:SR rr mb base x ln A) (k:KM (fun i=>i=rr\/x.vm.ownBlock=some i) A B) (hn:l.length=n) (hB:Bk rr [.string x.c.user,zi x.c.nodes,zi x.c.wall,zi x.c.qos,x.va,zi x.c.cap,zi x.c.inn,zi x.c.out,.string x.c.pool,.slice b n c,x.vd,x.vu,zi ln,.map (some mb)] 215 B)
  (hO:B.ownsRow base 220 5 (.slice b n c) n (l.flatMap fZ)) (ho:(Value.slice b n c).ownBlock=x.vm.ownBlock\/∃ s,(Value.slice b n c).ownBlock=some s/\A.heap.size<=s):SR rr mb base { x with c:={ x.c with make:=l },mb:=b,mc:=c } ln B:=by
 subst hn
 exact ⟨hB,{ a:=cY h.rows.a k fun i hi e=>e.elim (fun e=>by have:=(h.rows.ge i (.inl hi)).1;have:=h.rb;omega) (fun e=>h.rows.am i hi e),m:=hO,d:=cY h.rows.d k fun i hi e=>e.elim (fun e=>by have:=(h.rows.ge i (.inr (.inr (.inl hi)))).1;have:=h.rb;omega) (fun e=>h.rows.md i e hi),u:=cY h.rows.u k fun i hi e=>e.elim (fun e=>by have:=(h.rows.ge i (.inr (.inr (.inr hi)))).1;have:=h.rb;omega) (fun e=>h.rows.mu i e hi),am:=fun i e hi=>ho.elim (fun h1=>h.rows.am i e (h1 ▸ hi)) (fun ⟨s,h1,h2⟩=>by have q:some s=some i:=h1.symm.trans hi;cases q;have:=bA h.rows.a _ e;omega),ad:=h.rows.ad,au:=h.rows.au,md:=fun i hi e=>ho.elim (fun h1=>h.rows.md i (h1 ▸ hi) e) (fun ⟨s,h1,h2⟩=>by have q:some s=some i:=h1.symm.trans hi;cases q;have:=bA h.rows.d _ e;omega),mu:=fun i hi e=>ho.elim (fun h1=>h.rows.mu i (h1 ▸ hi) e) (fun ⟨s,h1,h2⟩=>by have q:some s=some i:=h1.symm.trans hi;cases q;have:=bA h.rows.u _ e;omega),du:=h.rows.du },h.rb⟩
theorem SR.grow_d {x:bS} {ln:Int} {l:List ByteArray} (h:SR rr mb base x ln A) (k:KM (fun i=>i=rr\/x.vd.ownBlock=some i) A B) (hn:l.length=n) (hB:Bk rr [.string x.c.user,zi x.c.nodes,zi x.c.wall,zi x.c.qos,x.va,zi x.c.cap,zi x.c.inn,zi x.c.out,.string x.c.pool,x.vm,.slice b n c,x.vu,zi ln,.map (some mb)] 215 B)
  (hO:B.ownsRow base 9 1 (.slice b n c) n (sv l)) (ho:(Value.slice b n c).ownBlock=x.vd.ownBlock\/∃ s,(Value.slice b n c).ownBlock=some s/\A.heap.size<=s):SR rr mb base { x with c:={ x.c with drop:=l },db:=b,dc:=c } ln B:=by
 subst hn
 exact ⟨hB,{ a:=cY h.rows.a k fun i hi e=>e.elim (fun e=>by have:=(h.rows.ge i (.inl hi)).1;have:=h.rb;omega) (fun e=>h.rows.ad i hi e),m:=cY h.rows.m k fun i hi e=>e.elim (fun e=>by have:=(h.rows.ge i (.inr (.inl hi))).1;have:=h.rb;omega) (fun e=>h.rows.md i hi e),d:=hO,u:=cY h.rows.u k fun i hi e=>e.elim (fun e=>by have:=(h.rows.ge i (.inr (.inr (.inr hi)))).1;have:=h.rb;omega) (fun e=>h.rows.du i e hi),am:=h.rows.am,ad:=fun i e hi=>ho.elim (fun h1=>h.rows.ad i e (h1 ▸ hi)) (fun ⟨s,h1,h2⟩=>by have q:some s=some i:=h1.symm.trans hi;cases q;have:=bA h.rows.a _ e;omega),au:=h.rows.au,md:=fun i e hi=>ho.elim (fun h1=>h.rows.md i e (h1 ▸ hi)) (fun ⟨s,h1,h2⟩=>by have q:some s=some i:=h1.symm.trans hi;cases q;have:=bA h.rows.m _ e;omega),mu:=h.rows.mu,du:=fun i hi e=>ho.elim (fun h1=>h.rows.du i (h1 ▸ hi) e) (fun ⟨s,h1,h2⟩=>by have q:some s=some i:=h1.symm.trans hi;cases q;have:=bA h.rows.u _ e;omega) },h.rb⟩
theorem SR.grow_u {x:bS} {ln:Int} {l:List ByteArray} (h:SR rr mb base x ln A) (k:KM (fun i=>i=rr\/x.vu.ownBlock=some i) A B) (hn:l.length=n) (hB:Bk rr [.string x.c.user,zi x.c.nodes,zi x.c.wall,zi x.c.qos,x.va,zi x.c.cap,zi x.c.inn,zi x.c.out,.string x.c.pool,x.vm,x.vd,.slice b n c,zi ln,.map (some mb)] 215 B)
  (hO:B.ownsRow base 9 1 (.slice b n c) n (sv l)) (ho:(Value.slice b n c).ownBlock=x.vu.ownBlock\/∃ s,(Value.slice b n c).ownBlock=some s/\A.heap.size<=s):SR rr mb base { x with c:={ x.c with use:=l },ub:=b,uc:=c } ln B:=by
 subst hn
 exact ⟨hB,{ a:=cY h.rows.a k fun i hi e=>e.elim (fun e=>by have:=(h.rows.ge i (.inl hi)).1;have:=h.rb;omega) (fun e=>h.rows.au i hi e),m:=cY h.rows.m k fun i hi e=>e.elim (fun e=>by have:=(h.rows.ge i (.inr (.inl hi))).1;have:=h.rb;omega) (fun e=>h.rows.mu i hi e),d:=cY h.rows.d k fun i hi e=>e.elim (fun e=>by have:=(h.rows.ge i (.inr (.inr (.inl hi)))).1;have:=h.rb;omega) (fun e=>h.rows.du i hi e),u:=hO,am:=h.rows.am,ad:=h.rows.ad,au:=fun i e hi=>ho.elim (fun h1=>h.rows.au i e (h1 ▸ hi)) (fun ⟨s,h1,h2⟩=>by have q:some s=some i:=h1.symm.trans hi;cases q;have:=bA h.rows.a _ e;omega),md:=h.rows.md,mu:=fun i e hi=>ho.elim (fun h1=>h.rows.mu i e (h1 ▸ hi)) (fun ⟨s,h1,h2⟩=>by have q:some s=some i:=h1.symm.trans hi;cases q;have:=bA h.rows.m _ e;omega),du:=fun i e hi=>ho.elim (fun h1=>h.rows.du i e (h1 ▸ hi)) (fun ⟨s,h1,h2⟩=>by have q:some s=some i:=h1.symm.trans hi;cases q;have:=bA h.rows.d _ e;omega) },h.rb⟩
abbrev CY (x:bS) (l:List (Int × Bool)) (b:Option Addr) (c:Nat):bS:={ x with c:={ x.c with after:=x.c.after++l },ab:=b,ac:=c }
theorem RL (l k:List (Int × Bool)) (p:Int × Bool):(l++(k++[p])).flatMap nD=(l++k).flatMap nD++[zi p.1,.bool p.2]:=by
 rw [<- aBs,aBb];rfl
theorem BB {g:Nat->Value} {ty:TypeId} {a1:Int} {a2:Bool} (h0:ev n g x0=zi a1) (h1:ev n g x1=.bool a2):aL n g ⟨dd,.build 245 #[(0,x0),(1,x1)],ty,pos,aft,gd⟩ w (.agg [zi a1,.bool a2].toArray):=
 iA (ps:=[(0,x0),(1,x1)]) (by simp only [aC3,aDb,h0,h1];kernel_rfl)
theorem MA (rr mb base lo:Nat) (x) (ln:Int) (s) (w) (hm:lY w) (hmx:∀ W,KM (fun i=>lo<=i) w W->lY W) (hS:SR rr mb base x ln w) (hs:s.size<=1000000) (hN:x.c.after.length<=500000000) (hbw:base<=w.heap.size) (hlr:lo<=rr) (hlo:lo<=base):
  gB (fun i=>i=rr\/Value.ownBlock x.va=some i) 181 [pt rr 0,.string s] w (fun _ w'=>∃ l b c,l.length<=s.size+1/\SR rr mb base (CY x l b c) ln w'/\∀ i,Value.ownBlock (CY x l b c).va=some i->Value.ownBlock x.va=some i\/w.heap.size<i) (fun c _=>gO c):=by
 have hR:=hS.blk
 refine aJ (n:=51) func181 rfl ntmps181 (aA1 rfl) (rg (aN (.string s) rfl (cE PA (a2 rfl rfl) (zV ⟨#[44]⟩ s _ hm (by omega) (aDl 1)) ?_)))
 rintro _ w1 k1 ⟨rfl,B1,z1⟩
 have nhR_B1:=aC8 hR.lt
 have lkB1_w:=aDl w.heap.size
 have hR:=hR.below k1
 have m2:KM (fun i=>i=rr\/Value.ownBlock x.va=some i) w w1:=aDr k1
 refine sq (aY underlying95 rfl) (aN aV rfl (nx ?_))
 refine bD (fun k g W=>∃ l:List (Int × Bool),∃ ab:Option Addr,∃ ac:Nat,g 12=zi ((k:Nat):Int)/\g 11=zi ((((aI ⟨#[44]⟩ s).length:Nat)):Int)/\g 0=pt rr (0)/\g 10=.slice (some ⟨w.heap.size,0,none⟩) ((aI ⟨#[44]⟩ s).length) ((aI ⟨#[44]⟩ s).length)/\Bk w.heap.size (sv (aI ⟨#[44]⟩ s)) 9 W/\(SR rr mb base (CY x l ab ac) ln W/\l.length<=k/\(∀ i,Value.ownBlock (CY x l ab ac).va=some i->Value.ownBlock x.va=some i\/w.heap.size<i)/\KM (fun i=>i=rr\/Value.ownBlock x.va=some i) w W)) ((aI ⟨#[44]⟩ s).length) (by have:=(eX ⟨#[44]⟩ s (aDl 1)).2;omega) (fun _ _ _ ⟨l,ab,ac,h⟩=>⟨h.1,h.2.1⟩) ⟨[],x.ab,x.ac,rfl,rfl,rfl,rfl,B1,⟨by simpa [CY] using hS.below k1,aDm _,fun i hi=>.inl (by simpa [CY] using hi),m2⟩⟩ rfl rfl (fun _ _ _ _ h=>h) ?_ ?_
 ·
  rintro k g3 w3 hk ⟨l,ab,ac,s12,s11,s0,s10,B1,⟨hSR,hll,hown,hkm⟩⟩
  have hR:=hSR.blk
  have nhR:rr≠w.heap.size:=fun e=>by have:=hS.blk.lt;omega
  have hfe:(aI ⟨#[44]⟩ s)[k].size<=1000000:=by have:=lT (aBz hk:(aI ⟨#[44]⟩ s)[k]∈(aI ⟨#[44]⟩ s));omega
  refine rg (sq (bB underlying95 sizeOf9 s10 s12 hk) (sq (nY rfl (cQ Dd 1 pZ (by rw [pG];exact (Bk.range B1)) (aEf B1) (aDt _ _) hk 0 _ rfl)) (aW (.string ((aI ⟨#[44]⟩ s)[k])) rfl (nx (rg (aN (.string ((aI ⟨#[44]⟩ s)[k])) rfl (cE VC (a2 rfl rfl) (JV ((aI ⟨#[44]⟩ s)[k]) 58 _ (hmx w3 (aD9 hkm (fun i _ h=>h.elim (fun e=>by omega) (fun e=>aC7 hlo (aM hS.rows.a _ e))))) (by have:=hfe;omega)) ?_)))))))
  rintro _ w4 k4 rfl
  have B1:=B1.below k4
  have hR:=hR.below k4
  have m5:KM (fun i=>i=rr\/Value.ownBlock x.va=some i) w w4:=hkm.below k4
  have m6:KM (fun _=>False) w3 w4:=aDr k4
  refine aN (.tuple #[.string ((fP (aI ⟨#[44]⟩ s)[k] 58).1),.string ((fP (aI ⟨#[44]⟩ s)[k] 58).2.1),.bool ((fP (aI ⟨#[44]⟩ s)[k] 58).2.2)]) rfl (sq (dT rfl rfl) (sq (dT rfl rfl) (sq (dT rfl rfl) (aW (.string ((fP (aI ⟨#[44]⟩ s)[k] 58).1)) rfl (aW (.string ((fP (aI ⟨#[44]⟩ s)[k] 58).2.1)) rfl (aW (.bool ((fP (aI ⟨#[44]⟩ s)[k] 58).2.2)) rfl (nx ?_)))))))
  refine sQS 10 (_::_::_::_::_::_::_::_::_::_::[]) [(0,22),(9,31)] [0,6,7,10,11,12] rfl rfl ⟨aA,aA,aA,aD aA,aD aA,aD aA,aD aA,aD aA,aD aA,aA,trivial⟩ (by kernel_rfl) rfl rfl rfl (fun Sd=>⟨
   bF Sd rfl s0,
   bF Sd rfl rfl,
   oW [(1,23)] [] Sd rfl fun _ _ _ h _=>dv aT h.1,
   iP Sd rfl rfl,
   dM [3] Sd rfl fun e _ h=>AO (h.1.1 e) rfl,
   oT [(4,26)] [] Sd rfl i2 gU fun e _ _ _ h _=>dv aT (mY e (h.1.1 e)),
   VF [] [6] Sd rfl i2 gU fun e _ _ _ _ q=>dv aT (mY e q.1),
   VF [(6,28)] [] Sd rfl i2 gU fun e _ _ _ h _=>dv (AO (h.1.1 e) rfl) (mY e rfl),
   dM [5,7] Sd rfl fun e _ h=>dA (h.1.1 e) (fun c=>h.2.1.1 (aa e (tn c))),
   aP [2,8] Sd rfl fun h=>cG h.1 (fun c=>h.2.1.1 c),
   trivial⟩) ?_
  rintro g7 w7 k7 ⟨s22,s31,-⟩ ⟨o0,o6,o7,o10,o11,o12,-⟩
  have s0:=o0.trans s0
  have s6:g7 6=.string ((fP (aI ⟨#[44]⟩ s)[k] 58).1):=o6.trans rfl
  have s7:g7 7=.string ((fP (aI ⟨#[44]⟩ s)[k] 58).2.1):=o7.trans rfl
  have s10:=o10.trans s10
  have s11:=o11.trans s11
  have s12:=o12.trans s12
  have B1:=B1.below k7
  have hR:=hR.below k7
  have m8:KM (fun i=>i=rr\/Value.ownBlock x.va=some i) w w7:=m5.below k7
  have m9:KM (fun _=>False) w3 w7:=m6.below k7
  refine vY (fst:=[]) (caps:=[]) Cx rfl (dZ (a2 s22 s31)) (oK rr mb (CY x l ab ac) ln _ _ hR) (fun cP10 w10 k10 hP10=>And.intro rfl (And.intro ((m8).next k10 (fun i h=>h.elim)) (Or.inr (Exists.intro cP10 (And.intro rfl ⟨_,_,hP10.2⟩))))) ?_
  rintro v10 w10 k10 hnd
  have B1:=B1.km k10 (fun h=>h)
  have hR:=hR.km k10 (fun h=>h)
  have m11:KM (fun i=>i=rr\/Value.ownBlock x.va=some i) w w10:=m8.next k10 (fun i h=>h.elim)
  have m12:KM (fun _=>False) w3 w10:=m9.next k10 (fun i h=>h.elim)
  refine nx ?_
  have hsplt:=B1.lt
  have hSR12:SR rr mb base (CY x l ab ac) ln w10:=hSR.km m12 (fun h=>h) (fun _ _ h=>h)
  have hvl:∀ i,Value.ownBlock (CY x l ab ac).va=some i->i<w10.heap.size:=bA hSR12.rows.a
  have nrr:¬ Value.ownBlock (CY x l ab ac).va=some rr:=fun e=>by have:=(aM hSR12.rows.a) _ e;have:=hSR.rb;omega
  have hs7:(fP (aI ⟨#[44]⟩ s)[k] 58).2.1.size<=1000000:=by have:=(oA (aI ⟨#[44]⟩ s)[k] 58).2;have:=hfe;omega
  have hzz:base<=w10.heap.size:=aC7 hbw m11.size
  have hln:(x.c.after++l).length<=600000000:=by rw [aBh];have:=(eX ⟨#[44]⟩ s (aDl 1)).2;omega
  have nsp:¬ Value.ownBlock (CY x l ab ac).va=some w.heap.size:=fun e=>hown _ e |>.elim (fun h=>by have:=bA hS.rows.a _ h;omega) (fun h=>by omega)
  refine eDS 14 (fun c W=>gO c/\KM (fun i=>Value.ownBlock (CY x l ab ac).va=some i) w10 W) (Cm (V:=(vE (pt rr (0)))::(vE (pt rr (0)))::(vE (pt rr (0)))::(vE (pt rr (0)))::(vE (pt rr (4)))::(vE (.slice (CY x l ab ac).ab ((CY x l ab ac).c.after.length) ((CY x l ab ac).ac)))::(vE (pt rr (0)))::(vE (.string ((fP (aI ⟨#[44]⟩ s)[k] 58).2.1)))::(fun v _=>∃ mm:Int,v=zi mm)::(vE (.string ((fP (aI ⟨#[44]⟩ s)[k] 58).1)))::(vE (.bool (decide (((fP (aI ⟨#[44]⟩ s)[k] 58).1)=(⟨#[97,110,121]⟩)))))::(fun v _=>∃ mm:Int,v=.agg [zi mm,.bool (decide (((fP (aI ⟨#[44]⟩ s)[k] 58).1)=(⟨#[97,110,121]⟩)))].toArray)::(fun v W=>∃ (mm:Int) (bk:Nat),v=.slice (some ⟨bk,0,none⟩) 1 1/\w10.heap.size<=bk/\Bk bk [zi mm,.bool (decide (((fP (aI ⟨#[44]⟩ s)[k] 58).1)=(⟨#[97,110,121]⟩)))] 245 W)::(fun v W=>∃ (mm:Int) (b:Option Addr) (c:Nat),v=.slice b ((x.c.after++l).length+1) c/\W.ownsRow base 245 2 (.slice b ((x.c.after++l).length+1) c) ((x.c.after++l).length+1) ((x.c.after++l).flatMap nD++[zi mm,.bool (decide (((fP (aI ⟨#[44]⟩ s)[k] 58).1)=(⟨#[97,110,121]⟩)))])/\((Value.slice b ((x.c.after++l).length+1) c).ownBlock=(CY x l ab ac).va.ownBlock\/∃ s,(Value.slice b ((x.c.after++l).length+1) c).ownBlock=some s/\w10.heap.size<=s))::[]) (M:=fun i=>Value.ownBlock (CY x l ab ac).va=some i) (li:=13) (P:=fun W=>W.ownsRow base 245 2 ((CY x l ab ac).va) ((x.c.after++l).length) ((x.c.after++l).flatMap nD)) (P1:=fun _=>True) rfl ⟨nZ aC,nZ aC,nZ aC,nZ aC,nZ aC,nZ aC,nZ aC,nZ aC,nZ fI,nZ aC,nZ aC,nZ fI,nZ (fun v a b ⟨mm,bk,e,h,hB⟩ k=>⟨mm,bk,e,h,hB.km k (fun e=>by have:=hvl _ e;omega)⟩),⟨fun v a b ⟨mm,bb,c,e,h,q⟩ k=>⟨mm,bb,c,e,bE h k,q⟩,fun e=>(by cases e)⟩,trivial⟩ rfl (fun a b h k=>bE h k) (fun _ _ _ _=>trivial)) [(0,33),(13,46)] [0,10,11,12] rfl (by kernel_rfl) rfl rfl rfl (by decide) rfl rfl hSR12.rows.a (fun c g W ⟨e,hk⟩=>And.intro rfl (And.intro (KM.next m11 hk (fun i hi=>(hown i hi).elim (fun h=>.inl (.inr h)) (fun h=>.inr (aDj h)))) (Or.inr (Exists.intro c (And.intro rfl e))))) (fun Sd=>⟨
   bF Sd rfl s0,
   bF Sd rfl s0,
   aP [1] Sd rfl fun h=>dF h.1,
   aP [2] Sd rfl fun h=>fU h.1,
   aP [3] Sd rfl fun h=>vL h.1,
   fY [4] Sd rfl fun hT h=>MS h.1 ((hR.km hT nrr).cell 4 rfl),
   bF Sd rfl s0,
   bF Sd rfl s7,
   ow [(6,39),(7,40)] [] Sd rfl rfl rfl (by rintro g1 w1 hT ⟨h6,h7,-⟩ -;exact mZ (fst:=[]) (caps:=[]) rfl (dZ (a4 h6 h7 rfl rfl)) KW (rA rr mb (CY x l ab ac) ln _ 1 1073741824 w1 (hR.km hT nrr) hs7) (fun v W hk hq=>by obtain ⟨mm,e,-⟩:=hq;exact ⟨aDs hk (aDt _ _) (aDl _) (fun _ h=>h.elim),mm,e⟩) (fun c W hk hp=>⟨hp,hT.trans (aD9 hk fun _ _ h=>h.elim)⟩)),
   bF Sd rfl s6,
   aP [9] Sd rfl fun h=>AO h.1 rfl,
   oW [(8,41),(10,43)] [] Sd rfl fun _ _ _ h _=>(by obtain ⟨mm,e8⟩:=h.1;exact dv (BB e8 h.2.1) ⟨mm,rfl⟩),
   oW [(11,44)] [] Sd rfl fun _ _ hT h _=>(by obtain ⟨mm,e11⟩:=h.1;exact Sc (cs:=[zi mm,.bool (decide (((fP (aI ⟨#[44]⟩ s)[k] 58).1)=(⟨#[97,110,121]⟩)))]) underlying93 GO rfl rfl e11 rfl rfl (fun w' hB hb=>⟨hb,mm,_,rfl,hT.size,hB⟩)),
   oc 0 [(5,38),(12,45)] [] rfl rfl rfl (by rintro g1 w1 hT ⟨h5,h12,-⟩ - hO0;exact (by obtain ⟨mm,bk,e12,hle,hBk⟩:=h12;have hz:=hT.size;exact Ts (m:=1) (sz:=2) underlying93 GO rfl (aA1 rfl) h5 hO0 e12 (news:=[zi mm,.bool (decide (((fP (aI ⟨#[44]⟩ s)[k] 58).1)=(⟨#[97,110,121]⟩)))]) rfl hBk.range rfl (by simp only [maxLen];omega) (by omega) (by omega) (fun v' w' h2 h3 h5'=>by obtain ⟨b',c',rfl,-⟩:=eG h2;exact ⟨h3,⟨mm,b',c',rfl,h2,h5'.imp id fun e=>⟨_,e,hz⟩⟩,trivial⟩))),
   trivial⟩) ?_
  rintro g13 w13 k13 ⟨s33,s46,-⟩ ⟨o0,o10,o11,o12,-⟩ -
  obtain ⟨mm13,ob13,oc13,s46,hO13,ha13⟩:=s46
  have s0:=o0.trans s0
  have s10:=o10.trans s10
  have s11:=o11.trans s11
  have s12:=o12.trans s12
  have B1:=B1.km k13 nsp
  have hR:=hR.km k13 nrr
  have m14:KM (fun i=>i=rr\/Value.ownBlock x.va=some i) w w13:=m11.next k13 (fun i hi=>(hown i hi).elim (fun h=>.inl (.inr h)) (fun h=>.inr (aDj h)))
  have nor13:∀ i,Value.ownBlock (Value.slice ob13 ((x.c.after++l).length+1) oc13)=some i->i≠rr:=fun i hi e=>by subst e;rcases ha13 with h | ⟨s,h,h2⟩;exact nrr (h ▸ hi);rw [h] at hi;cases hi;have:=hR.lt;have:=(hSR12.blk).lt;omega
  refine sq (dF s33) (sq (fU rfl) (sq (vL rfl) (eP hR sizeOf93 rfl s46 rfl rfl fun w15 hRn O15 z15 =>?_)))
  replace hR:=hRn
  have B1:=B1.only O15 nhR.symm
  have hO13:=eF hO13 O15 nor13
  have m16:KM (fun i=>i=rr\/Value.ownBlock x.va=some i) w w15:=m14.only O15 (.inl (Or.inl rfl))
  have m17:KM (fun i=>i=rr\/Value.ownBlock (CY x l ab ac).va=some i) w10 w15:=(aD9 k13 (fun _ _ h=>Or.inr h)).only O15 (.inl (Or.inl rfl))
  refine nl ?_
  have hz5:=m16.size
  have hSRn:=hSR12.grow_a (l:=x.c.after++(l++[(mm13,decide ((fP (aI ⟨#[44]⟩ s)[k] 58).1=(⟨#[97,110,121]⟩:ByteArray)))])) m17 (by simp;omega) hR (by rw [RL];exact hO13) ha13
  have hown0:∀ i,Value.ownBlock (Value.slice ob13 ((x.c.after++l).length+1) oc13)=some i->Value.ownBlock x.va=some i\/w.heap.size<i:=fun i hi=>by rcases ha13 with h | ⟨s,h,h2⟩;exact hown i (h ▸ hi);rw [h] at hi;cases hi;have:=hsplt;exact .inr (by omega)
  have hownN:∀ i,Value.ownBlock (CY x (l++[(mm13,decide ((fP (aI ⟨#[44]⟩ s)[k] 58).1=(⟨#[97,110,121]⟩:ByteArray)))]) ob13 oc13).va=some i->Value.ownBlock x.va=some i\/w.heap.size<i:=fun i hi=>hown0 i (by cases ob13 <;> exact hi)
  exact dO ⟨⟨l++[(mm13,decide ((fP (aI ⟨#[44]⟩ s)[k] 58).1=(⟨#[97,110,121]⟩:ByteArray)))],ob13,oc13,rfl,s11,s0,s10,B1,⟨hSRn,by simp;omega,hownN,m16⟩⟩,s12⟩
 ·
  rintro g18 w18 ⟨l,ab,ac,s12,s11,s0,s10,B1,⟨hSR,hll,hown,hkm⟩⟩
  exact fV rfl ⟨hkm,.inl ⟨_,rfl,l,ab,ac,by have:=(eX ⟨#[44]⟩ s (aDl 1)).2;omega,hSR,hown⟩⟩
section
open Go.Proofs.Tryz
open Go.RowKit Go.Maps Go.WideMaps
theorem dR.km {f:Lit->Option Value} {M:Nat->Prop} (h:dR K b n m f A) (k:KM M A B) (hn:¬ M b):dR K b n m f B:=by
 obtain ⟨D,h1,h2⟩:=h
 have hlt:=h1.lt
 obtain ⟨es,clock,hb,F,hs,hD⟩:=h1
 exact ⟨D,⟨es,clock,(k.block b hlt hn).trans hb,F,hs,hD⟩,h2⟩
def MV (K:TypeId) (b N:Nat) (P:Value->Prop) (w:World):Prop:=∃ n m f,dR K b n m f w/\n<=N/\∀ kl v,f kl=some v->P v
section
variable {K:TypeId} {b N:Nat} {P:Value->Prop} {A B:World} {M:Nat->Prop}
theorem MV.km (h:MV K b N P A) (k:KM M A B) (hn:¬ M b):MV K b N P B:=let ⟨n,m,f,h1,h2⟩:=h;⟨n,m,f,h1.km k hn,h2⟩
theorem MV.below (h:MV K b N P A) (k:Below A.heap.size A B):MV K b N P B:=h.km (aDr (M:=fun _=>False) k) (fun h=>h)
theorem MV.only (h:MV K b N P A) (k:aS c A B) (hne:b≠c):MV K b N P B:=let ⟨n,m,f,h1,h2⟩:=h;⟨n,m,f,h1.only k hne,h2⟩
theorem MV.lt (h:MV K b N P A):b<A.heap.size:=let ⟨_,_,_,h1,_⟩:=h;h1.lt
theorem MV.mono (h:MV K b N P A) (hN:N<=N'):MV K b N' P A:=let ⟨n,m,f,h1,h2,h3⟩:=h;⟨n,m,f,h1,aC7 h2 hN,h3⟩
theorem MV.made (w:World) (K) (P:Value->Prop):MV K w.heap.size 0 P (w.alloc (.map #[] 0)):=⟨0,0,_,dR.made w K,aDl _,fun _ _ h=>(by cases h)⟩
theorem MV.put (h:MV K b N P A) (L:Keyed prog K) (ht:prog.underlying t=some (.map K e)) (hN:N<maxLen) {kl:Lit} (hk:keyOf prog K key=some kl) (hv:P v):
  ∃ w',(Instr.mapUpdate t (.map (some b)) key v).run prog A=.ok () w'/\MV K b (N+1) P w'/\aS b A w':=by
 obtain ⟨n,m,f,h1,h2,h3⟩:=h
 obtain ⟨w',hr,h4,h5⟩:=h1.put L ht (by omega) (v:=v) hk
 refine ⟨w',hr,⟨_,_,_,h4,by omega,fun k' v' hv'=>?_⟩,h5⟩
 by_cases e:k'=kl
 ·subst e;rw [mN] at hv';cases hv';exact hv
 ·rw [nB _ _ e] at hv';exact h3 _ _ hv'
theorem MV.drop (h:MV K b N P A) (L:Keyed prog K) (ht:prog.underlying t=some (.map K e)) {kl:Lit} (hk:keyOf prog K key=some kl) (ty):
  ∃ w',(Builtin.delete_ #[t,K] ty #[.map (some b),key]).run prog A=.ok (.tuple #[]) w'/\MV K b N P w'/\aS b A w':=by
 obtain ⟨n,m,f,h1,h2,h3⟩:=h
 obtain ⟨w',hr,h4,h5⟩:=h1.drop L ht hk ty
 refine ⟨w',hr,⟨_,_,_,h4,by omega,fun k' v' hv'=>?_⟩,h5⟩
 by_cases e:k'=kl
 ·subst e;rw [mN] at hv';cases hv'
 ·rw [nB _ _ e] at hv';exact h3 _ _ hv'
theorem MV.look (h:MV K b N P A) (L:Keyed prog K) (ht:prog.underlying t=some (.map K e)) (hz:(zeroValue e).run prog A=.ok z A) {kl:Lit} (hk:keyOf prog K key=some kl):
  ∃ v,(Instr.lookup t (.map (some b)) key false).run prog A=.ok v A/\(v=z\/P v):=by
 obtain ⟨n,m,f,h1,h2,h3⟩:=h
 refine ⟨_,h1.look L ht hz hk,?_⟩
 cases hf:f kl with
 | none=>exact .inl rfl
 | some u=>exact .inr (h3 _ _ hf)
end
section
variable {r:Option Nat} {n:Nat} {ds:List Deferred} {g:Nat->Value} {w:World} {Q:Exit->Act->World->Prop} {l:List Oper} {ops:Array Oper} {ty:TypeId} {pos:String} {aft:Array Edge} {x y z:Operand} {d:Tmp} {dd:Option Tmp} {t:TypeId} {gd:Option (Nat × Bool)}
  {K:TypeId} {b N:Nat} {P:Value->Prop} {Pn:List PanicEntry->World->Prop}
theorem VK (K) (P:Value->Prop) (h:∀ w',MV K w.heap.size 0 P w'->Below w.heap.size w w'->w'.heap.size=w.heap.size+1->dY r ops Q l (fr n ds (up g d (.map (some w.heap.size)))) w'):
  dY r ops Q (⟨some d,.makeMap t none,ty,pos,aft,none⟩::l) (fr n ds g) w:=by
 refine eM rfl fun K' hK =>iC (by rw [bV];exact DY _ _ w t rfl) ?_
 rw [fF]
 exact hK _ _ (h _ (MV.made w K P) (iF w _) (by simp))
theorem CN {kl:Lit} (hM:MV K b N P w) (L:Keyed prog K) (ht:prog.underlying t=some (.map K e)) (hN:N<maxLen) (hx:ev n g x=.map (some b)) (hy:ev n g y=key) (hz:ev n g z=v) (hk:keyOf prog K key=some kl) (hv:P v)
  (h:∀ w',MV K b (N+1) P w'->aS b w w'->dY r ops Q l (fr n ds g) w'):dY r ops Q (⟨none,.insert t x y z,ty,pos,aft,none⟩::l) (fr n ds g) w:=by
 obtain ⟨w',hr,h1,h2⟩:=hM.put L ht hN hk hv
 exact eM rfl fun K' hK =>qK (w':=w') (by rw [bV];exact GT _ _ t x y z _ _ _ w w' rfl hx hy hz hr) (hK _ _ (h w' h1 h2))
theorem Xy {kl:Lit} {K':Act->World->Prop} (hM:MV K b N P w) (L:Keyed prog K) (ht:prog.underlying t=some (.map K e)) (hN:N<maxLen) (hx:ev n g x=.map (some b)) (hy:ev n g y=key) (hz:ev n g z=v) (hk:keyOf prog K key=some kl) (hv:P v)
  (h:∀ w',MV K b (N+1) P w'->aS b w w'->K' (fr n ds g) w'):Ow r ⟨none,.mapUpdate t x y z,ty,pos,aft,none⟩ (fr n ds g) w K' Q:=by
 obtain ⟨w',hr,h1,h2⟩:=hM.put L ht hN hk hv
 refine qK (w':=w') ?_ (h w' h1 h2)
 rw [bV]
 unfold execOp
 simp only [hx,hy,hz]
 simp [hr]
theorem WD {kl:Lit} (hM:MV K b N P w) (L:Keyed prog K) (ht:prog.underlying t=some (.map K e)) (hx:ev n g x=.map (some b)) (hy:ev n g y=key) (hk:keyOf prog K key=some kl)
  (h:∀ w',MV K b N P w'->aS b w w'->dY r ops Q l (fr n ds g) w'):dY r ops Q (⟨none,.call ⟨.builtin .delete,#[x,y],#[t,K]⟩,ty,pos,aft,none⟩::l) (fr n ds g) w:=by
 obtain ⟨w',hr,h1,h2⟩:=hM.drop L ht hk ty
 exact eM rfl fun K' hK =>iC (v:=.tuple #[]) (w':=w') (by rw [bV];simp [execOp,resolve,invoke,builtin,hx,hy,hr,Result.andThen]) (hK _ _ (h w' h1 h2))
theorem qC (hx:ev n g x=.map (some b)) (hy:ev n g y=key) (h:(Instr.lookup t (.map (some b)) key false).run prog w=.ok v w):aL n g ⟨dd,.lookup t x y false,ty,pos,aft,gd⟩ w v:=by
 unfold aL execOp
 simp [hx,hy,h]
theorem Tx {kl:Lit} (hM:MV K b N P w) (L:Keyed prog K) (ht:prog.underlying t=some (.map K e)) (hz:∀ w,(zeroValue e).run prog w=.ok zv w) (hx:ev n g x=.map (some b)) (hy:ev n g y=key) (hk:keyOf prog K key=some kl)
  (h:∀ v,(v=zv\/P v)->dY r ops Q l (fr n ds (up g d v)) w):dY r ops Q (⟨some d,.lookup t x y false,ty,pos,aft,none⟩::l) (fr n ds g) w:=by
 obtain ⟨v,hr,hv⟩:=hM.look L ht (hz w) hk
 exact sq (qC hx hy hr) (h v hv)
theorem Sv {kl:Lit} (hM:MV K b N P w) (L:Keyed prog K) (ht:prog.underlying t=some (.map K e)) (hz:∀ w,(zeroValue e).run prog w=.ok zv w) (hx:ev n g x=.map (some b)) (hy:ev n g y=key) (hk:keyOf prog K key=some kl):
  tV n g ⟨dd,.lookup t x y false,ty,pos,aft,gd⟩ w Pn fun v w'=>Below w.heap.size w w'/\(v=zv\/P v):=by
 obtain ⟨v,hr,hv⟩:=hM.look L ht (hz w) hk
 exact dv (qC hx hy hr) hv
theorem Uy {f:Fn} {a c:Array Value} (hx:ev n g x=.func f a c) (hy:ev n g y=.nilFunc):aL n g ⟨dd,.binOp .neq 218 x y 218,ty,pos,aft,gd⟩ w (.bool true):=by
 unfold aL execOp; simp only [hx, hy, go_sem]; kernel_rfl
theorem Pz (hx:ev n g x=.nilFunc) (hy:ev n g y=.nilFunc):aL n g ⟨dd,.binOp .neq 218 x y 218,ty,pos,aft,gd⟩ w (.bool false):=by
 unfold aL execOp; simp only [hx, hy, go_sem]; kernel_rfl
theorem Uw {f:Fn} {a c:Array Value} (hx:ev n g x=.func f a c) (hy:ev n g y=.nilFunc):aL n g ⟨dd,.binOp .eql 218 x y 218,ty,pos,aft,gd⟩ w (.bool false):=by
 unfold aL execOp; simp only [hx, hy, go_sem]; kernel_rfl
theorem Rr (hx:ev n g x=.nilFunc) (hy:ev n g y=.nilFunc):aL n g ⟨dd,.binOp .eql 218 x y 218,ty,pos,aft,gd⟩ w (.bool true):=by
 unfold aL execOp; simp only [hx, hy, go_sem]; kernel_rfl
end
end
section
open Go.Proofs.Tryz
open Go.RowKit Go.Maps
def Pl (j:Nat):Prop:=j=177\/j=178\/j=179\/j=180\/j=181
def JG (rr:Nat) (v:Value):Prop:=∃ j,Pl j/\v=.func (.func j) [pt rr 0].toArray [].toArray
def Ye:Value->Bool
 | .nilFunc=>true
 | _=>false
theorem WH (h:Pl j):EN j:=by
 rcases h with rfl | rfl | rfl | rfl | rfl
 ·exact en177
 ·exact Zj
 ·exact en179
 ·exact en180
 ·exact YZ
theorem aAl (h:v=.nilFunc\/JG rr v) (hb:(!Ye v)=true):JG rr v:=h.elim (fun e=>by subst e;cases hb) id
section
variable {n:Nat} {g:Nat->Value} {w:World} {ty:TypeId} {pos:String} {aft:Array Edge} {x y:Operand} {dd:Option Tmp} {gd:Option (Nat × Bool)} {t:TypeId}
theorem YU (h:v=.nilFunc\/JG rr v) (hx:ev n g x=v) (hy:ev n g y=.nilFunc):aL n g ⟨dd,.binOp .neq 218 x y 218,ty,pos,aft,gd⟩ w (.bool (!Ye v)):=by
 rcases h with rfl | ⟨j,_,rfl⟩
 ·exact Pz hx hy
 ·exact Uy hx hy
theorem Nu (h:v=.nilFunc\/JG rr v) (hx:ev n g x=v) (hy:ev n g y=.nilFunc):aL n g ⟨dd,.binOp .eql 218 x y 218,ty,pos,aft,gd⟩ w (.bool (Ye v)):=by
 rcases h with rfl | ⟨j,_,rfl⟩
 ·exact Rr hx hy
 ·exact Uw hx hy
def o1 (m:Nat):Nat:=if m=1 then 0 else 1
theorem Yc (hu:prog.underlying t=some (.slice 9)) (hx:ev n g x=.slice (some ⟨b,0,none⟩) m m) (hy:ev n g y=zi 1) (hk:1<=m) (hm:m - 1=m'):
  aL n g ⟨dd,.slice t x (some y) none none,ty,pos,aft,gd⟩ w (.slice (some ⟨b,o1 m,none⟩) m' m'):=by
 subst hm
 unfold aL execOp
 have hs:=sizeOf9
 have h0:(1:Int)<=(m:Int):=by omega
 simp [hx,hy,Instr.sliceAt,Instr.slice,run_underlying hu,Instr.sliceBounds,Instr.sliceBound,asIntOf,h0,hs,hk,Addr.add]
 unfold o1
 by_cases h4:m=1
 ·subst h4;simp
 ·simp [h4]
end
theorem JH {l:List ByteArray} {w:World} (h:w.rangeAt b 0 (sv l)):w.rangeAt b (o1 l.length) ((l.drop 1).flatMap Dd):=by
 rw [pG]
 intro j u hu
 cases l with
 | nil=>simp [sv] at hu
 | cons x l=>
  simp only [List.drop_succ_cons,List.drop_zero] at hu
  have hne:l.length+1≠1:=by
   intro e
   have:l=[]:=aAt (by omega)
   subst this;simp [sv] at hu
  have e:o1 (x::l).length+j=0+(j+1):=by unfold o1;rw [aB3,aEd hne];omega
  rw [e]
  exact h (j+1) u (by rw [<- pG];rw [<- pG] at hu;simpa [Dd] using hu)
structure yZ (x y:bS) (d:Nat):Prop where
 cap:y.c.cap=x.c.cap
 inn:y.c.inn=x.c.inn
 out:y.c.out=x.c.out
 pool:y.c.pool=x.c.pool
 make:y.c.make=x.c.make
 drop:y.c.drop=x.c.drop
 use:y.c.use=x.c.use
 vm:y.vm=x.vm
 vd:y.vd=x.vd
 vu:y.vu=x.vu
 user:y.c.user.size<=1000000
 aft:y.c.after.length<=x.c.after.length+d
theorem yZ.trans {x y z:bS} (h:yZ x y d) (k:yZ y z e):yZ x z (d+e) where
 cap:=k.cap.trans h.cap
 inn:=k.inn.trans h.inn
 out:=k.out.trans h.out
 pool:=k.pool.trans h.pool
 make:=k.make.trans h.make
 drop:=k.drop.trans h.drop
 use:=k.use.trans h.use
 vm:=k.vm.trans h.vm
 vd:=k.vd.trans h.vd
 vu:=k.vu.trans h.vu
 user:=k.user
 aft:=by have:=h.aft;have:=k.aft;omega
theorem So (rr mb base lo j:Nat) (hj:Pl j) (x) (ln:Int) (s) (w) (hm:lY w) (hmx:∀ W,KM (fun i=>lo<=i) w W->lY W) (hS:SR rr mb base x ln w) (hs:s.size<=1000000) (hu:x.c.user.size<=1000000) (hN:x.c.after.length<=500000000) (hbw:base<=w.heap.size) (hlr:lo<=rr) (hlo:lo<=base):
  gB (fun i=>i=rr\/Value.ownBlock x.va=some i) j [pt rr 0,.string s] w (fun _ w'=>∃ y,yZ x y (s.size+1)/\SR rr mb base y ln w'/\∀ i,Value.ownBlock y.va=some i->Value.ownBlock x.va=some i\/w.heap.size<i) (fun c _=>gO c):=by
 have weak:∀ (f:FuncId) (R:Value->World->Prop),gB (·=rr) f [pt rr 0,.string s] w R (fun c _=>gO c)->gB (fun i=>i=rr\/Value.ownBlock x.va=some i) f [pt rr 0,.string s] w R (fun c _=>gO c):=fun f R h=>aDx h fun e w' ⟨hk,h1⟩=>⟨hk.mono fun _ _=>.inl,h1⟩
 have hh:∀ d:Nat,yZ x x d:=fun d=>⟨rfl,rfl,rfl,rfl,rfl,rfl,rfl,rfl,rfl,rfl,hu,aB4 _ _⟩
 rcases hj with rfl | rfl | rfl | rfl | rfl
 ·exact weak _ _ ((PX rr mb base x ln s w hS hs).mono (fun v w' _ ⟨_,h⟩=>by refine ⟨_,?_,h,fun i hi=>.inl hi⟩;exact ⟨rfl,rfl,rfl,rfl,rfl,rfl,rfl,rfl,rfl,rfl,hs,aB4 _ _⟩) (fun _ _ _ h=>h))
 ·exact weak _ _ ((Mq rr mb base x ln s w hS hs).mono (fun v w' _ ⟨m,_,h⟩=>by refine ⟨_,?_,h,fun i hi=>.inl hi⟩;exact ⟨rfl,rfl,rfl,rfl,rfl,rfl,rfl,rfl,rfl,rfl,hu,aB4 _ _⟩) (fun _ _ _ h=>h))
 ·exact weak _ _ ((Ny rr mb base x ln s w hS hs).mono (fun v w' _ ⟨m,_,h⟩=>by refine ⟨_,?_,h,fun i hi=>.inl hi⟩;exact ⟨rfl,rfl,rfl,rfl,rfl,rfl,rfl,rfl,rfl,rfl,hu,aB4 _ _⟩) (fun _ _ _ h=>h))
 ·exact weak _ _ ((TV rr mb base x ln s w hS hs).mono (fun v w' _ ⟨m,_,h⟩=>by refine ⟨_,?_,h,fun i hi=>.inl hi⟩;exact ⟨rfl,rfl,rfl,rfl,rfl,rfl,rfl,rfl,rfl,rfl,hu,aB4 _ _⟩) (fun _ _ _ h=>h))
 ·exact (MA rr mb base lo x ln s w hm hmx hS hs hN hbw hlr hlo).mono (fun v w' _ ⟨l,b,c,hl,h,ho⟩=>by refine ⟨_,?_,h,ho⟩;exact ⟨rfl,rfl,rfl,rfl,rfl,rfl,rfl,rfl,rfl,rfl,hu,by show (x.c.after++l).length<=_;rw [aBh];omega⟩) (fun _ _ _ h=>h)
theorem OL (rr mb base lo:Nat) (x) (ln:Int) (s) (w) (hm:lY w) (hmx:∀ W,KM (fun i=>lo<=i) w W->lY W) (hS:SR rr mb base x ln w) (hs:s.size<=10000) (hu:x.c.user.size<=1000000) (hN:x.c.after.length<=1000) (hbw:base<=w.heap.size) (hlr:lo<=rr) (hlo:lo<=base):
  gB (fun i=>i=rr\/Value.ownBlock x.va=some i) 131 [pt rr 0,.string s] w (fun _ w'=>∃ y,yZ x y 100050004/\SR rr mb base y ln w'/\∀ i,Value.ownBlock y.va=some i->Value.ownBlock x.va=some i\/w.heap.size<i) (fun c _=>gO c):=by
 have hR:=hS.blk
 refine aJ (n:=76) func131 rfl ntmps131 (aA1 rfl) (rg (aN (.string s) rfl (cE PA (a2 rfl rfl) (zV ⟨#[32]⟩ s _ hm (by omega) (aDl 1)) ?_)))
 rintro _ w1 k1 ⟨rfl,B1,z1⟩
 have nhR_B1:=aC8 hR.lt
 have lkB1_w:=aDl w.heap.size
 have hR:=hR.below k1
 have m2:KM (fun _=>False) w w1:=aDr k1
 refine aW (.slice (some ⟨w.heap.size,0,none⟩) ((aI ⟨#[32]⟩ s).length) ((aI ⟨#[32]⟩ s).length)) rfl (nx (rg (aN (pt rr (0)) rfl (aN (.slice (some ⟨w.heap.size,0,none⟩) ((aI ⟨#[32]⟩ s).length) ((aI ⟨#[32]⟩ s).length)) rfl ?_))))
 have hlt0:0<(aI ⟨#[32]⟩ s).length:=by have:=(eX ⟨#[32]⟩ s (aDl 1)).1;omega
 refine sq (v:=pt w.heap.size (0+(0)*1)) (bB (i:=0) underlying95 sizeOf9 rfl rfl hlt0) (sq (v:=.string ((aI ⟨#[32]⟩ s)[0])) (nY rfl (cQ Dd 1 pZ (by rw [pG];exact (Bk.range B1)) (aEf B1) (aDt _ _) hlt0 0 _ rfl)) (sq (v:=.bool (decide (((aI ⟨#[32]⟩ s)[0])=(⟨#[106,111,98]⟩)))) (AO rfl rfl) (vY (fst:=[]) (caps:=[]) Cx rfl (dZ (a2 rfl rfl)) (oK rr mb x ln _ _ hR) (fun cP3 w3 k3 hP3=>And.intro rfl (And.intro (aD9 (KM.next m2 k3 (fun i h=>h.elim)) (fun _ _ h=>h.elim)) (Or.inr (Exists.intro cP3 (And.intro rfl ⟨_,_,hP3.2⟩))))) ?_)))
 rintro v3 w3 k3 -
 have hR:=hR.km k3 (fun h=>h)
 have B1:=B1.km k3 (fun h=>h)
 have m4:KM (fun _=>False) w w3:=m2.next k3 (fun i h=>h.elim)
 refine nx (rg (VK 9 (JG rr) fun w5 hMV k5 z5 =>?_))
 have nhR_hMV:=aC8 hR.lt
 have nB1_hMV:=aC8 B1.lt
 have lkhMV_w:=m4.size
 have hR:=hR.below k5
 have B1:=B1.below k5
 have m6:KM (fun _=>False) w w5:=m4.below k5
 refine aN (pt rr (0)) rfl (sq (v:=.func (.func 177) ([pt rr (0)]).toArray ([]).toArray) (tX rfl) (CN (key:=.string ⟨#[117,115,101,114]⟩) (v:=.func (.func 177) [pt rr 0].toArray [].toArray) hMV mP underlying262 (by simp only [maxLen];omega) rfl rfl rfl (qS ⟨#[117,115,101,114]⟩ (by simp only [maxLen];exact aA1 rfl)) ⟨177,.inl rfl,rfl⟩ fun w7 hMVn O7 =>?_))
 replace hMV:=hMVn
 have hR:=hR.only O7 nhR_hMV
 have B1:=B1.only O7 nB1_hMV
 have m8:KM (fun _=>False) w w7:=m6.only O7 (.inr (by have:=z1;omega))
 refine aN (pt rr (0)) rfl (sq (v:=.func (.func 178) ([pt rr (0)]).toArray ([]).toArray) (tX rfl) (CN (key:=.string ⟨#[110,111,100,101,115]⟩) (v:=.func (.func 178) [pt rr 0].toArray [].toArray) hMV mP underlying262 (by simp only [maxLen];omega) rfl rfl rfl (qS ⟨#[110,111,100,101,115]⟩ (by simp only [maxLen];exact aA1 rfl)) ⟨178,.inr (.inl rfl),rfl⟩ fun w9 hMVn O9 =>?_))
 replace hMV:=hMVn
 have hR:=hR.only O9 nhR_hMV
 have B1:=B1.only O9 nB1_hMV
 have m10:KM (fun _=>False) w w9:=m8.only O9 (.inr (by have:=z1;omega))
 refine aN (pt rr (0)) rfl (sq (v:=.func (.func 179) ([pt rr (0)]).toArray ([]).toArray) (tX rfl) (CN (key:=.string ⟨#[119,97,108,108]⟩) (v:=.func (.func 179) [pt rr 0].toArray [].toArray) hMV mP underlying262 (by simp only [maxLen];omega) rfl rfl rfl (qS ⟨#[119,97,108,108]⟩ (by simp only [maxLen];exact aA1 rfl)) ⟨179,.inr (.inr (.inl rfl)),rfl⟩ fun w11 hMVn O11 =>?_))
 replace hMV:=hMVn
 have hR:=hR.only O11 nhR_hMV
 have B1:=B1.only O11 nB1_hMV
 have m12:KM (fun _=>False) w w11:=m10.only O11 (.inr (by have:=z1;omega))
 refine aN (pt rr (0)) rfl (sq (v:=.func (.func 180) ([pt rr (0)]).toArray ([]).toArray) (tX rfl) (CN (key:=.string ⟨#[113,111,115]⟩) (v:=.func (.func 180) [pt rr 0].toArray [].toArray) hMV mP underlying262 (by simp only [maxLen];omega) rfl rfl rfl (qS ⟨#[113,111,115]⟩ (by simp only [maxLen];exact aA1 rfl)) ⟨180,.inr (.inr (.inr (.inl rfl))),rfl⟩ fun w13 hMVn O13 =>?_))
 replace hMV:=hMVn
 have hR:=hR.only O13 nhR_hMV
 have B1:=B1.only O13 nB1_hMV
 have m14:KM (fun _=>False) w w13:=m12.only O13 (.inr (by have:=z1;omega))
 refine aN (pt rr (0)) rfl (sq (v:=.func (.func 181) ([pt rr (0)]).toArray ([]).toArray) (tX rfl) (CN (key:=.string ⟨#[97,102,116,101,114]⟩) (v:=.func (.func 181) [pt rr 0].toArray [].toArray) hMV mP underlying262 (by simp only [maxLen];omega) rfl rfl rfl (qS ⟨#[97,102,116,101,114]⟩ (by simp only [maxLen];exact aA1 rfl)) ⟨181,.inr (.inr (.inr (.inr rfl))),rfl⟩ fun w15 hMVn O15 =>?_))
 replace hMV:=hMVn
 have hR:=hR.only O15 nhR_hMV
 have B1:=B1.only O15 nB1_hMV
 have m16:KM (fun _=>False) w w15:=m14.only O15 (.inr (by have:=z1;omega))
 refine aN (.map (some w3.heap.size)) rfl (aW (.map (some w3.heap.size)) rfl (nx (aF (rg (aN (.slice (some ⟨w.heap.size,0,none⟩) ((aI ⟨#[32]⟩ s).length) ((aI ⟨#[32]⟩ s).length)) rfl (sq (v:=.slice (some ⟨w.heap.size,o1 (aI ⟨#[32]⟩ s).length,none⟩) ((aI ⟨#[32]⟩ s).drop 1).length ((aI ⟨#[32]⟩ s).drop 1).length) (Yc (m:=(aI ⟨#[32]⟩ s).length) underlying95 rfl rfl hlt0 (by simp)) (sq (v:=zi ((((aI ⟨#[32]⟩ s).drop 1).length:Nat):Int)) (aY underlying95 rfl) (aN aV rfl (nx ?_)))))))))
 have hwL0:w.heap.size+1<=w3.heap.size:=by have:=z1;omega
 have hwL2:=hMV.lt
 have hwL1:w.heap.size<w15.heap.size:=by omega
 have hMlo:∀ i,i<w.heap.size->(fun i=>i=rr\/Value.ownBlock x.va=some i) i->lo<=i:=fun i _ h=>h.elim (fun e=>by omega) (fun e=>aC7 hlo (aM hS.rows.a _ e))
 refine bD (fun k g W=>∃ y:bS,g 35=zi ((k:Nat):Int)/\g 34=zi (((((aI ⟨#[32]⟩ s).drop 1).length:Nat)):Int)/\g 0=pt rr (0)/\g 5=.map (some w3.heap.size)/\g 33=.slice (some ⟨w.heap.size,o1 (aI ⟨#[32]⟩ s).length,none⟩) (((aI ⟨#[32]⟩ s).drop 1).length) (((aI ⟨#[32]⟩ s).drop 1).length)/\Bk w.heap.size (sv (aI ⟨#[32]⟩ s)) 9 W/\(SR rr mb base y ln W/\yZ x y (k*10002)/\(∀ i,Value.ownBlock y.va=some i->Value.ownBlock x.va=some i\/w15.heap.size<=i)/\KM (fun i=>i=rr\/Value.ownBlock x.va=some i) w W/\MV 9 w3.heap.size 5 (JG rr) W/\KM (fun _=>True) w15 W)) (((aI ⟨#[32]⟩ s).drop 1).length) (by have:=(eX ⟨#[32]⟩ s (aDl 1)).2;have:((aI ⟨#[32]⟩ s).drop 1).length=(aI ⟨#[32]⟩ s).length - 1:=aB5;omega) (fun _ _ _ ⟨y,h⟩=>⟨h.1,h.2.1⟩) ⟨x,rfl,rfl,rfl,rfl,rfl,B1,⟨hS.km m16 (fun h=>h) (fun _ _ h=>h),⟨rfl,rfl,rfl,rfl,rfl,rfl,rfl,rfl,rfl,rfl,hu,aB4 _ _⟩,fun i hi=>.inl hi,aD9 m16 (fun _ _ h=>h.elim),hMV,aD8 _ _⟩⟩ rfl rfl (fun _ _ _ _ h=>h) ?_ ?_
 ·
  rintro k g17 w17 hk ⟨y,s35,s34,s0,s5,s33,B1,⟨hSR,hst,hown,hkm,hMV,hkL⟩⟩
  have hR:=hSR.blk
  have nhR:rr≠w.heap.size:=fun e=>by have:=hS.blk.lt;omega
  have nmR:rr≠w3.heap.size:=fun e=>by have:=hS.blk.lt;omega
  have nms:w.heap.size≠w3.heap.size:=by omega
  have hfe:((aI ⟨#[32]⟩ s).drop 1)[k].size<=10000:=by have:=lT (List.mem_of_mem_drop (aBz hk):((aI ⟨#[32]⟩ s).drop 1)[k]∈aI ⟨#[32]⟩ s);omega
  have hkey:(fP ((aI ⟨#[32]⟩ s).drop 1)[k] 61).1.size<=maxLen:=by have:=(oA ((aI ⟨#[32]⟩ s).drop 1)[k] 61).1;simp only [maxLen];omega
  have hny0:∀ i,(x.vm.ownBlock=some i\/x.vd.ownBlock=some i\/x.vu.ownBlock=some i)->i<w.heap.size:=fun i hi=>hi.elim (fun h=>bA hS.rows.m _ h) (fun hi=>hi.elim (fun h=>bA hS.rows.d _ h) (fun h=>bA hS.rows.u _ h))
  refine rg (sq (v:=pt w.heap.size (o1 (aI ⟨#[32]⟩ s).length+k*1)) (bB underlying95 sizeOf9 s33 s35 hk) (sq (v:=.string ((((aI ⟨#[32]⟩ s).drop 1))[k])) (nY rfl (cQ Dd 1 pZ (JH (Bk.range B1)) (aEf B1) (aDt _ _) hk 0 _ rfl)) (aW (.string ((((aI ⟨#[32]⟩ s).drop 1))[k])) rfl (nx (rg (aN (.string ((((aI ⟨#[32]⟩ s).drop 1))[k])) rfl (cE VC (a2 rfl rfl) (JV ((((aI ⟨#[32]⟩ s).drop 1))[k]) 61 _ (hmx w17 (aD9 hkm hMlo)) (by have:=hfe;omega)) ?_)))))))
  rintro _ w18 k18 rfl
  have B1:=B1.below k18
  have hR:=hR.below k18
  have hMV:=hMV.below k18
  have m19:KM (fun i=>i=rr\/Value.ownBlock x.va=some i) w w18:=hkm.below k18
  have m20:KM (fun _=>False) w17 w18:=aDr k18
  have m21:KM (fun _=>True) w15 w18:=hkL.below k18
  refine aN (.tuple #[.string ((fP ((aI ⟨#[32]⟩ s).drop 1)[k] 61).1),.string ((fP ((aI ⟨#[32]⟩ s).drop 1)[k] 61).2.1),.bool ((fP ((aI ⟨#[32]⟩ s).drop 1)[k] 61).2.2)]) rfl (sq (v:=.string ((fP ((aI ⟨#[32]⟩ s).drop 1)[k] 61).1)) (dT rfl rfl) (sq (v:=.string ((fP ((aI ⟨#[32]⟩ s).drop 1)[k] 61).2.1)) (dT rfl rfl) (sq (v:=.bool ((fP ((aI ⟨#[32]⟩ s).drop 1)[k] 61).2.2)) (dT rfl rfl) (aW (.string ((fP ((aI ⟨#[32]⟩ s).drop 1)[k] 61).1)) rfl (aW (.string ((fP ((aI ⟨#[32]⟩ s).drop 1)[k] 61).2.1)) rfl (aW (.bool ((fP ((aI ⟨#[32]⟩ s).drop 1)[k] 61).2.2)) rfl (nx (rg (bI s5 (aN (.string ((fP ((aI ⟨#[32]⟩ s).drop 1)[k] 61).1)) rfl (Tx (key:=.string (fP ((aI ⟨#[32]⟩ s).drop 1)[k] 61).1) hMV mP underlying262 zeroValue218 rfl rfl (qS _ hkey) fun vf hvf =>aW vf rfl (nx ?_))))))))))))
  refine sQS 6 (_::_::_::_::_::_::[]) [(0,48),(5,53)] [0,5,8,9,11,33,34,35] rfl rfl ⟨aA,aA,aA,aD aA,aD aA,aA,trivial⟩ (by kernel_rfl) rfl rfl rfl (fun Sd=>⟨
   bF Sd rfl s0,
   bF Sd rfl rfl,
   oW [(1,49)] [] Sd rfl fun _ _ _ h _=>dv aT h.1,
   iP Sd rfl rfl,
   dM [3] Sd rfl fun e _ h=>YU hvf (h.1.1 e) rfl,
   aP [2,4] Sd rfl fun h=>cG h.1 (fun c=>h.2.1.1 c),
   trivial⟩) ?_
  rintro g22 w22 k22 ⟨s48,s53,-⟩ ⟨o0,o5,o8,o9,o11,o33,o34,o35,-⟩
  have s0:=o0.trans s0
  have s5:=o5.trans s5
  have s8:g22 8=.string ((fP ((aI ⟨#[32]⟩ s).drop 1)[k] 61).1):=o8.trans rfl
  have s9:g22 9=.string ((fP ((aI ⟨#[32]⟩ s).drop 1)[k] 61).2.1):=o9.trans rfl
  have s11:g22 11=vf:=o11.trans rfl
  have s33:=o33.trans s33
  have s34:=o34.trans s34
  have s35:=o35.trans s35
  have B1:=B1.below k22
  have hR:=hR.below k22
  have hMV:=hMV.below k22
  have m23:KM (fun i=>i=rr\/Value.ownBlock x.va=some i) w w22:=m19.below k22
  have m24:KM (fun _=>False) w17 w22:=m20.below k22
  have m25:KM (fun _=>True) w15 w22:=m21.below k22
  refine vY (fst:=[]) (caps:=[]) Cx rfl (dZ (a2 s48 s53)) (oK rr mb y ln _ _ hR) (fun cP26 w26 k26 hP26=>And.intro rfl (And.intro (aD9 (KM.next m23 k26 (fun i h=>h.elim)) (fun _ _ h=>h)) (Or.inr (Exists.intro cP26 (And.intro rfl ⟨_,_,hP26.2⟩))))) ?_
  rintro v26 w26 k26 hnd
  have B1:=B1.km k26 (fun h=>h)
  have hMV:=hMV.km k26 (fun h=>h)
  have m27:KM (fun i=>i=rr\/Value.ownBlock x.va=some i) w w26:=m23.next k26 (fun i h=>h.elim)
  have m28:KM (fun _=>False) w17 w26:=m24.next k26 (fun i h=>h.elim)
  have m29:KM (fun _=>True) w15 w26:=m25.next k26 (fun i h=>h.elim)
  refine nx (rg (bI s11 (bI s9 ?_)))
  obtain ⟨j,hj,hvj⟩:=aAl hvf (by simp only [aB0] at hnd;exact hnd.2)
  have hSc:SR rr mb base y ln w26:=hSR.km m28 (fun h=>h) (fun _ _ h=>h)
  have hcs:(fP ((aI ⟨#[32]⟩ s).drop 1)[k] 61).2.1.size<=10000:=by have:=(oA ((aI ⟨#[32]⟩ s).drop 1)[k] 61).2;have:=hfe;omega
  have hMVw:=hMV.lt
  have hya:=hst.aft
  have hsl9:=(eX ⟨#[32]⟩ s (aDl 1)).2
  have hdl:((aI ⟨#[32]⟩ s).drop 1).length=(aI ⟨#[32]⟩ s).length - 1:=aB5
  have hnsp:¬ (w.heap.size=rr\/Value.ownBlock y.va=some w.heap.size):=by rintro (e | e);have:=hS.blk.lt;omega;rcases hown _ e with h | h;have:=bA hS.rows.a _ h;omega;have:=hwL1;omega
  have hnm0:¬ (w3.heap.size=rr\/Value.ownBlock y.va=some w3.heap.size):=by rintro (e | e);have:=hS.blk.lt;have:=hwL0;omega;rcases hown _ e with h | h;have:=bA hS.rows.a _ h;have:=hwL0;omega;have:=hwL2;omega
  have hmx2:∀ W,KM (fun i=>lo<=i) w26 W->lY W:=fun W hW=>hmx W (aD4 (aD9 m27 hMlo) hW)
  have hzz:base<=w26.heap.size:=aC7 hbw m27.size
  have hgr:∀ i,(i=rr\/Value.ownBlock y.va=some i)->(fun i=>i=rr\/Value.ownBlock x.va=some i) i\/w.heap.size<=i:=fun i hi=>hi.elim (fun e=>.inl (.inl e)) (fun e=>(hown i e).elim (fun h=>.inl (.inr h)) (fun h=>.inr (by have:=hwL0;omega)))
  refine vY (fst:=[pt rr 0]) (caps:=[]) (WH hj) ((rfl).trans hvj) (CT (a1 rfl)) (So rr mb base lo j hj y ln (fP ((aI ⟨#[32]⟩ s).drop 1)[k] 61).2.1 _ (hmx w26 (aD9 m27 hMlo)) hmx2 hSc (by omega) hst.user (by have:k*10002<=10001*10002:=aA6 _ (by omega);omega) hzz hlr hlo) (fun cP30 w30 k30 hP30=>And.intro rfl (And.intro ((m27).next k30 hgr) (Or.inr (Exists.intro cP30 (And.intro rfl hP30))))) ?_
  rintro v30 w30 k30 ⟨y2,hst2,hSR2,hown2⟩
  have hpL:=m29.size
  have hpz:=m28.size
  have B1:=B1.km k30 hnsp
  have hMV:=hMV.km k30 hnm0
  have m31:KM (fun i=>i=rr\/Value.ownBlock x.va=some i) w w30:=m27.next k30 hgr
  have m32:KM (fun _=>True) w15 w30:=m29.next k30 (fun _ _=>.inl trivial)
  have hSR2:SR rr mb base y2 ln w30:=hSR2
  refine nx ?_
  have hny2:∀ i,bX y2 i->¬ i=w3.heap.size:=fun i hi e=>by subst e;rcases hi with h | h | h | h;(rcases hown2 _ h with h | h;exact hnm0 (.inr h);omega);(have:=hny0 _ (.inl (hst.vm ▸ hst2.vm ▸ h:x.vm.ownBlock=some _));omega);(have:=hny0 _ (.inr (.inl (hst.vd ▸ hst2.vd ▸ h:x.vd.ownBlock=some _)));omega);(have:=hny0 _ (.inr (.inr (hst.vu ▸ hst2.vu ▸ h:x.vu.ownBlock=some _)));omega)
  refine eO (bI s5 (bI s8 (WD (key:=.string (fP ((aI ⟨#[32]⟩ s).drop 1)[k] 61).1) hMV mP underlying262 rfl rfl (qS _ hkey) fun w33 hMVn O33 =>?_)))
  replace hMV:=hMVn
  have hSR2:SR rr mb base y2 ln w33:=hSR2.km (aD0 (M:=fun i=>i=w3.heap.size) O33 rfl) (fun e=>hnm0 (.inl e.symm)) (fun i hi e=>hny2 i hi e)
  have B1:=B1.only O33 nms
  have m34:KM (fun i=>i=rr\/Value.ownBlock x.va=some i) w w33:=m31.only O33 (.inr (by omega))
  have m35:KM (fun _=>True) w15 w33:=m32.only O33 (.inl trivial)
  refine nl ?_
  have hown3:∀ i,Value.ownBlock y2.va=some i->Value.ownBlock x.va=some i\/w15.heap.size<=i:=fun i hi=>(hown2 i hi).elim (hown i) (fun h=>.inr (by omega))
  exact dO ⟨⟨y2,rfl,s34,s0,s5,s33,B1,⟨hSR2,by have:=hst.trans hst2;exact ⟨this.cap,this.inn,this.out,this.pool,this.make,this.drop,this.use,this.vm,this.vd,this.vu,this.user,by have:=this.aft;omega⟩,hown3,m34,hMV,m35⟩⟩,s35⟩
 ·
  rintro g36 w36 ⟨y,s35,s34,s0,s5,s33,B1,⟨hSR,hst,hown,hkm,hMV,hkL⟩⟩
  have hR:=hSR.blk
  obtain ⟨mn,mm,mf,hMI,hmn,hmf⟩:=hMV
  have hvl:∀ kl,(mf kl).getD .nilFunc=.nilFunc\/JG rr ((mf kl).getD .nilFunc):=fun kl=>by cases e:mf kl with | none=>exact .inl rfl | some u=>exact .inr (hmf _ _ e)
  refine eQS 14 (_::_::_::_::_::_::_::_::_::_::_::_::_::_::[]) [(0,61),(13,74)] [] rfl rfl ⟨aA,aA,aA,aA,aA,aD aA,aD aA,aD aA,aA,aA,aD aA,aD aA,aD aA,aA,trivial⟩ (by kernel_rfl) rfl rfl rfl (fun Sd=>⟨
   bF Sd rfl s0,
   bF Sd rfl s5,
   fY [1] Sd rfl fun hT h=>qC h.1 rfl ((hMI.below hT).look (kl:=.string [117,115,101,114]) mP underlying262 (zeroValue218 _) (qS ⟨#[117,115,101,114]⟩ (by simp only [maxLen];exact aA1 rfl))),
   aP [2] Sd rfl fun h=>Nu (hvl _) h.1 rfl,
   oW [(3,64)] [] Sd rfl fun _ _ _ h _=>dv aT h.1,
   iP Sd rfl s5,
   dM [5] Sd rfl fun e hT h=>qC (h.1.1 e) rfl ((hMI.below hT).look (kl:=.string [110,111,100,101,115]) mP underlying262 (zeroValue218 _) (qS ⟨#[110,111,100,101,115]⟩ (by simp only [maxLen];exact aA1 rfl))),
   dM [6] Sd rfl fun e _ h=>Nu (hvl _) (h.1.1 e) rfl,
   aP [4,7] Sd rfl fun h=>cG h.1 (fun c=>h.2.1.1 c),
   oW [(8,69)] [] Sd rfl fun _ _ _ h _=>dv aT h.1,
   iP Sd rfl s5,
   dM [10] Sd rfl fun e hT h=>qC (h.1.1 e) rfl ((hMI.below hT).look (kl:=.string [119,97,108,108]) mP underlying262 (zeroValue218 _) (qS ⟨#[119,97,108,108]⟩ (by simp only [maxLen];exact aA1 rfl))),
   dM [11] Sd rfl fun e _ h=>Nu (hvl _) (h.1.1 e) rfl,
   aP [9,12] Sd rfl fun h=>cG h.1 (fun c=>h.2.1.1 c),
   trivial⟩) ?_
  rintro g37 w37 k37 ⟨s61,s74,-⟩ -
  have hR:=hR.below k37
  have m38:KM (fun i=>i=rr\/Value.ownBlock x.va=some i) w w37:=hkm.below k37
  have m39:KM (fun _=>False) w36 w37:=aDr k37
  refine vY (fst:=[]) (caps:=[]) Cx rfl (dZ (a2 s61 s74)) (oK rr mb y ln _ _ hR) (fun cP40 w40 k40 hP40=>And.intro rfl (And.intro (aD9 (KM.next m38 k40 (fun i h=>h.elim)) (fun _ _ h=>h)) (Or.inr (Exists.intro cP40 (And.intro rfl ⟨_,_,hP40.2⟩))))) ?_
  rintro v40 w40 k40 hnd2
  have m41:KM (fun i=>i=rr\/Value.ownBlock x.va=some i) w w40:=m38.next k40 (fun i h=>h.elim)
  have m42:KM (fun _=>False) w36 w40:=m39.next k40 (fun i h=>h.elim)
  refine nl ?_
  have hSRf:SR rr mb base y ln w40:=hSR.km m42 (fun h=>h) (fun _ _ h=>h)
  exact fV rfl ⟨m41,.inl ⟨_,rfl,y,⟨hst.cap,hst.inn,hst.out,hst.pool,hst.make,hst.drop,hst.use,hst.vm,hst.vd,hst.vu,hst.user,by have h1:=hst.aft;have h2:=(eX ⟨#[32]⟩ s (aDl 1)).2;have h4:((aI ⟨#[32]⟩ s).drop 1).length=(aI ⟨#[32]⟩ s).length - 1:=aB5;have h3:((aI ⟨#[32]⟩ s).drop 1).length*10002<=10001*10002:=aA6 _ (by omega);omega⟩,hSRf,fun i hi=>(hown i hi).imp id fun h=>by omega⟩⟩
end
section
open Go.Proofs.Tryz
open Go.RowKit Go.Maps
def BX (v:Value):Prop:=∃ q:Int,v=zi q
structure lD (K:Nat->ByteArray) (n:Nat) (x:eW):Prop where
 dirs:∀ d∈x.make,fD K d
 user:x.user.size<=1000000
 pool:x.pool.size<=1000000
 drop:∀ s∈x.drop,s.size<=1000000
 use:∀ s∈x.use,s.size<=1000000
 afterN:x.after.length<=1000000000
 makeN:x.make.length<=n
 dropN:x.drop.length<=n
 useN:x.use.length<=n
 w1:x.cap≠0->(K 1).size<=1000
 w2:x.inn≠0->(K 2).size<=1000
 w3:x.out≠0->(K 3).size<=1000
 w5:x.drop≠[]->(K 5).size<=1000
 w6:x.use≠[]->(K 6).size<=1000
theorem lD.out {K:Nat->ByteArray} {x:eW} (h:lD K n x) (hn:n<=1000000):mX K x/\rQ K x:=
 ⟨⟨h.dirs,h.user,h.pool,h.drop,h.use,h.afterN,aC7 h.makeN hn,aC7 h.dropN hn,aC7 h.useN hn⟩,⟨h.w1,h.w2,h.w3,h.w5,h.w6⟩⟩
theorem lD.up {K:Nat->ByteArray} {x:eW} (h:lD K n x) (hm:n<=m):lD K m x:={ h with makeN:=aC7 h.makeN hm,dropN:=aC7 h.dropN hm,useN:=aC7 h.useN hm }
theorem lD.head {K:Nat->ByteArray} {x y:bS} (h:lD K n x.c) (k:yZ x y d) (hn:x.c.after.length+d<=1000000000):lD K n y.c where
 dirs:=by rw [k.make];exact h.dirs
 user:=k.user
 pool:=by rw [k.pool];exact h.pool
 drop:=by rw [k.drop];exact h.drop
 use:=by rw [k.use];exact h.use
 afterN:=by have:=k.aft;omega
 makeN:=by rw [k.make];exact h.makeN
 dropN:=by rw [k.drop];exact h.dropN
 useN:=by rw [k.use];exact h.useN
 w1:=by rw [k.cap];exact h.w1
 w2:=by rw [k.inn];exact h.w2
 w3:=by rw [k.out];exact h.w3
 w5:=by rw [k.drop];exact h.w5
 w6:=by rw [k.use];exact h.w6
section
variable {K:Nat->ByteArray} {n:Nat} {x:eW} {d:dN}
theorem fD.w (hd:fD K d) (hj:d.kind=j) (h1:1<=j) (h6:j<=6):(K j).size<=1000:=by subst hj;exact hd.word h1 h6
theorem lD.p1 (h:lD K n x) (hd:fD K d) (hk:d.kind=1):lD K (n+1) { x with cap:=d.size,pool:=d.pool }:={ h.up (aDq n) with pool:=aC7 hd.pool (by omega),w1:=fun _=>hd.w hk (by omega) (by omega) }
theorem lD.p2 (h:lD K n x) (hd:fD K d) (hk:d.kind=2):lD K (n+1) { x with inn:=d.size }:={ h.up (aDq n) with w2:=fun _=>hd.w hk (by omega) (by omega) }
theorem lD.p3 (h:lD K n x) (hd:fD K d) (hk:d.kind=3):lD K (n+1) { x with out:=d.size }:={ h.up (aDq n) with w3:=fun _=>hd.w hk (by omega) (by omega) }
theorem lD.p4 (h:lD K n x) (hd:fD K d):lD K (n+1) { x with make:=x.make++[d] }:={ h.up (aDq n) with dirs:=fun e he=>(aCv.1 he).elim (h.dirs e) (fun he=>by simp at he;subst he;exact hd),makeN:=by have:=h.makeN;simp;exact this }
theorem lD.p5 (h:lD K n x) (hd:fD K d) (hk:d.kind=5):lD K (n+1) { x with drop:=x.drop++[d.name] }:={ h.up (aDq n) with drop:=fun e he=>(aCv.1 he).elim (h.drop e) (fun he=>by simp at he;subst he;exact aC7 hd.name (by omega)),dropN:=by have:=h.dropN;simp;exact this,w5:=fun _=>hd.w hk (by omega) (by omega) }
theorem lD.p6 (h:lD K n x) (hd:fD K d) (hk:d.kind=6):lD K (n+1) { x with use:=x.use++[d.name] }:={ h.up (aDq n) with use:=fun e he=>(aCv.1 he).elim (h.use e) (fun he=>by simp at he;subst he;exact aC7 hd.name (by omega)),useN:=by have:=h.useN;simp;exact this,w6:=fun _=>hd.w hk (by omega) (by omega) }
end
theorem Pc (l:List ByteArray) (s):sv (l++[s])=sv l++[.string s]:=by unfold sv;simp
theorem mV.rr {x y:bS} (h:mV base x w) (ha:y.va=x.va) (hm:y.vm=x.vm) (hd:y.vd=x.vd) (hu:y.vu=x.vu) (ca:y.c.after=x.c.after) (cm:y.c.make=x.c.make) (cd:y.c.drop=x.c.drop) (cu:y.c.use=x.c.use):mV base y w:=
 ⟨by rw [ha,ca];exact h.a,by rw [hm,cm];exact h.m,by rw [hd,cd];exact h.d,by rw [hu,cu];exact h.u,by rw [ha,hm];exact h.am,by rw [ha,hd];exact h.ad,by rw [ha,hu];exact h.au,by rw [hm,hd];exact h.md,by rw [hm,hu];exact h.mu,by rw [hd,hu];exact h.du⟩
theorem Tt (rr mb base Nm) (x) (ln:Int) (d) (w) (hS:SR rr mb base x ln w) (hM:MV 5 mb Nm BX w) (hk255:d.kind<=255) (hNm:Nm<=1000000) (hm:x.c.make.length<=1000000) (hd:x.c.drop.length<=1000000) (hu:x.c.use.length<=1000000) (hbw:base<=w.heap.size) (hrm:rr≠mb) (hmb:mb<base):
  gB (fun i=>i=rr\/i=mb\/bX x i) 135 [pt rr 0,.agg d.cells] w (fun _ w'=>∃ y,(∀ K n,lD K n x.c->fD K d->lD K (n+1) y.c)/\SR rr mb base y ln w'/\MV 5 mb (Nm+1) BX w'/\∀ i,bX y i->bX x i\/w.heap.size<=i) (fun c _=>gO c):=by
 have hR:=hS.blk
 have hMV:=hM
 have hm0:=hM.lt
 have hno:∀ i,bX x i->¬ i=mb:=fun i hi e=>by have:=(hS.rows.ge i hi).1;omega
 refine aJ (n:=99) func135 rfl ntmps135 (aA1 rfl) (rg (cO (cs:=d.cells.toList) rfl rfl fun w1 B1 k1 z1 =>?_))
 have nhR_B1:=aC8 hR.lt
 have nhMV_B1:=aC8 hMV.lt
 have lkB1_w:=aDl w.heap.size
 have hR:=hR.below k1
 have hMV:=hMV.below k1
 have m2:KM (·=mb) w w1:=aDr k1
 refine nx (aF (rg (sq (xL rfl) (sq (Nr rfl (B1.cell 0 rfl)) (sq (xV rfl rfl) (nx ?_))))))
 refine Gs (fun g W=>g 0=pt rr 0/\g 3=pt w.heap.size 0/\Bk w.heap.size d.cells.toList 220 W/\SR rr mb base x ln W/\MV 5 mb (Nm+1) BX W/\KM (fun i=>i=rr\/i=mb\/bX x i) w W) ?_ ?_
 ·
  refine cd rfl (fun c3=>?_) (fun c3=>?_)
  ·
   refine CP (fun c W=>gO c/\Below w1.heap.size w1 W) (lG (V:=_::_::_::_::_::_::_::(fun v _=>v=zi 0\/BX v)::(fun v _=>∃ b:Bool,v=.bool b)::(fun _ _=>True)::[]) rfl ⟨aA,aA,aA,aA,aA,aA,aA,VV,VV,VV,trivial⟩) [] [0,3] (by kernel_rfl) rfl rfl trivial (fun c g W ⟨e,hb⟩=>And.intro rfl (And.intro (aD9 ((m2).below hb) (fun _ _ h=>.inr (.inl h))) (Or.inr (Exists.intro c (And.intro rfl e))))) (fun Sd=>⟨
    bF Sd rfl rfl,
    bF Sd rfl rfl,
    aP [1] Sd rfl fun h=>dF h.1,
    aP [2] Sd rfl fun h=>KX h.1,
    fY [3] Sd rfl fun hT h=>VZ h.1 ((hR.below hT).cell 13 rfl),
    jA 3 Sd rfl fun q=>xL q,
    fY [5] Sd rfl fun hT h=>Nr h.1 ((B1.below hT).cell 0 rfl),
    oW [(4,11),(6,13)] [] Sd rfl fun _ _ hT h _=>(show tV _ _ _ _ _ _ from Sv (key:=.int .u8 (d.kind:Int)) (hMV.below hT) Er underlying213 zeroValue3 h.1 h.2.1 (EH _ (by omega) (by omega))),
    oW [(7,14)] [] Sd rfl fun _ _ _ h _=>(by have h7':=h.1;obtain ⟨q0,e7⟩:BX _:=h7'.elim (fun e=>⟨0,e⟩) id;exact dv (eZ e7 rfl) ⟨_,rfl⟩),
    ow [(0,7),(8,15)] [] Sd rfl rfl rfl (by rintro g1 w1 hT ⟨h0,h8,-⟩ -;exact (by obtain ⟨b,e8⟩:=h8;exact mZ (fst:=[]) (caps:=[]) rfl (dZ (a2 h0 e8)) Cx (oK rr mb x ln b w1 (hR.below hT)) (fun v W hk _=>⟨aDs hk (aDt _ _) (aDl _) (fun _ h=>h.elim),trivial⟩) (fun c W hk hp=>⟨⟨_,_,hp.2⟩,aDu hT (aDs hk (aDt _ _) (aDl _) (fun _ h=>h.elim))⟩))),
    trivial⟩) ?_
   rintro g4 w4 k4 - ⟨o0,o3,-⟩ -
   have s0:g4 0=pt rr (0):=o0.trans rfl
   have s3:g4 3=pt w.heap.size (0):=o3.trans rfl
   have hR:=hR.below k4
   have hMV:=hMV.below k4
   have B1:=B1.below k4
   have m5:=m2.below k4
   refine eDL 6 (_::_::_::_::_::_::[]) [(3,20),(5,22)] [0,3] rfl rfl ⟨aA,aA,aA,aA,aA,aA,trivial⟩ (by kernel_rfl) rfl rfl rfl rfl rfl (fun Sd=>⟨
    bF Sd rfl s0,
    aP [0] Sd rfl fun h=>dF h.1,
    aP [1] Sd rfl fun h=>KX h.1,
    fY [2] Sd rfl fun hT h=>VZ h.1 ((hR.below hT).cell 13 rfl),
    jA 3 Sd rfl fun q=>xL (q.trans s3),
    fY [4] Sd rfl fun hT h=>Nr h.1 ((B1.below hT).cell 0 rfl),
    trivial⟩) ?_
   rintro g6 w6 k6 ⟨s20,s22,-⟩ ⟨o0,o3,-⟩ Kq hK
   have s0:=o0.trans s0
   have s3:=o3.trans s3
   have hMV:=hMV.below k6
   have B1:=B1.below k6
   have m7:=m5.below k6
   refine Xy (key:=.int .u8 (d.kind:Int)) (v:=zi 1) hMV Er underlying213 (by simp only [maxLen];omega) s20 s22 rfl (EH _ (by omega) (by omega)) ⟨1,rfl⟩ fun w8 hMVn O8 =>?_
   have B1:=B1.only O8 (fun e=>by have:=hMV.lt;have:=hm0;omega)
   have m9:=m7.only O8 (.inl rfl)
   refine hK _ _ ?_
   have hSj:SR rr mb base x ln w8:=hS.km m9 hrm hno
   exact ⟨_,rfl,s0,s3,B1,hSj,hMVn,aD9 m9 (fun _ _ h=>.inr (.inl h))⟩
  ·
   refine aG ?_
   have hSj:SR rr mb base x ln w1:=hS.km m2 hrm hno
   exact ⟨_,rfl,rfl,rfl,B1,hSj,(hMV.mono (aDq _)),aD9 m2 (fun _ _ h=>.inr (.inl h))⟩
 ·
  rintro g10 w10 ⟨s0,s3,B1,hSR,hMV,hkm⟩
  have hR:=hSR.blk
  have hdr:rr≠w.heap.size:=fun e=>by have:=hS.blk.lt;omega
  have hdm:mb≠w.heap.size:=fun e=>by omega
  refine rg (sq (xL s3) (sq (Nr rfl (B1.cell 0 rfl)) (nx (aO (rg (sq (eZ rfl rfl) (aW (.bool (decide (((d.kind:Int):Int)=(1:Int)))) rfl (nx ?_))))))))
  refine cd rfl (fun c11=>?_) (fun c11=>?_)
  ·
   refine eDS 10 (fun _ _=>False) (Cm (V:=(vE (pt rr (0)))::(vE (pt rr (0)))::(vE (pt w.heap.size (3)))::(vE (zi d.size))::(vE (pt w.heap.size (2)))::(vE (.string d.pool))::(vE (pt rr (0)))::(vE (pt rr (0)))::(vE (pt rr (5)))::(fun _ _=>True)::[]) (M:=fun i=>i=rr) (li:=9) (P:=fun W=>Bk rr (srC x ln mb) 215 W) (P1:=fun W=>Bk rr [.string x.c.user,zi x.c.nodes,zi x.c.wall,zi x.c.qos,.slice x.ab x.c.after.length x.ac,zi d.size,zi x.c.inn,zi x.c.out,.string x.c.pool,.slice x.mb x.c.make.length x.mc,.slice x.db x.c.drop.length x.dc,.slice x.ub x.c.use.length x.uc,zi ln,.map (some mb)] 215 W) rfl ⟨nZ aC,nZ aC,nZ aC,nZ aC,nZ aC,nZ aC,nZ aC,nZ aC,nZ aC,⟨fI,fun e=>(by cases e)⟩,trivial⟩ rfl (fun a b h k=>aD3 h k) (fun a b h k=>aD3 h k)) [(1,28),(5,32)] [] rfl (by kernel_rfl) rfl rfl rfl (by decide) rfl rfl hR (fun _ _ _ h=>h.elim) (fun Sd=>⟨
    bF Sd rfl s0,
    bF Sd rfl s0,
    jA 3 Sd rfl fun q=>Bc (q.trans s3),
    fY [2] Sd rfl fun hT h=>cZ h.1 ((B1.km hT (fun e=>hdr (Eq.symm e))).cell 3 rfl),
    jA 3 Sd rfl fun q=>Tg (q.trans s3),
    fY [4] Sd rfl fun hT h=>nY h.1 ((B1.km hT (fun e=>hdr (Eq.symm e))).cell 2 rfl),
    aP [0] Sd rfl fun h=>dF h.1,
    aP [6] Sd rfl fun h=>fU h.1,
    aP [7] Sd rfl fun h=>wH h.1,
    oc 0 [(3,30),(8,35)] [] rfl rfl rfl (by rintro g1 w1 hT ⟨h3,h8,-⟩ - hO0;exact (BR hO0 sizeOf2 h8 h3 rfl rfl (fun W hB9 O z=>⟨aD0 O rfl,trivial,hB9⟩))),
    trivial⟩) ?_
   rintro g12 w12 k12 ⟨s28,s32,-⟩ - hT12
   have hMV:=hMV.km k12 (fun e=>hrm (Eq.symm e))
   have m13:KM (fun i=>i=rr\/i=mb\/bX x i) w w12:=hkm.next k12 (fun i (h:i=rr)=>.inl (.inl h))
   have m14:KM (·=rr) w10 w12:=(aD8 _ _).next k12 (fun i (h:i=rr)=>.inl h)
   refine sq (dF s28) (sq (fU rfl) (sq (Fr rfl) (eP hT12 sizeOf9 rfl s32 rfl rfl fun w15 hT12n O15 z15 =>?_)))
   replace hT12:=hT12n
   have hMV:=hMV.only O15 hrm.symm
   have m16:KM (fun i=>i=rr\/i=mb\/bX x i) w w15:=m13.only O15 (.inl (Or.inl rfl))
   have m17:=m14.only O15 (.inl rfl)
   refine nl (pI ?_)
   have hkk:d.kind=1:=by have:=aBp c11;omega
   have hq:=hSR.rows.km m17 (fun i hi (e:i=rr)=>by have:=(hSR.rows.ge i hi).1;have:=hSR.rb;omega)
   exact fV rfl ⟨m16,.inl ⟨_,rfl,{ x with c:={ x.c with cap:=d.size,pool:=d.pool } },fun K n h hd=>h.p1 hd hkk,⟨hT12,hq.rr rfl rfl rfl rfl rfl rfl rfl rfl,hSR.rb⟩,hMV,fun i hi=>.inl hi⟩⟩
  ·
   refine rg (sq (eZ rfl rfl) (aW (.bool (decide (((d.kind:Int):Int)=(2:Int)))) rfl (nx ?_)))
   refine cd rfl (fun c18=>?_) (fun c18=>?_)
   ·
    refine eO (bI s0 (sq (Bc s3) (sq (cZ rfl (B1.cell 3 rfl)) (sq (dF rfl) (sq (fU rfl) (sq (Ih rfl) (eP hR sizeOf2 rfl rfl rfl rfl fun w19 hRn O19 z19 =>?_)))))))
    replace hR:=hRn
    have hMV:=hMV.only O19 hrm.symm
    have m20:KM (fun i=>i=rr\/i=mb\/bX x i) w w19:=hkm.only O19 (.inl (Or.inl rfl))
    have m21:KM (·=rr) w10 w19:=(aD8 _ _).only O19 (.inl rfl)
    refine nl (pI ?_)
    have hkk:d.kind=2:=by have:=aBp c18;omega
    have hq:=hSR.rows.km m21 (fun i hi (e:i=rr)=>by have:=(hSR.rows.ge i hi).1;have:=hSR.rb;omega)
    exact fV rfl ⟨m20,.inl ⟨_,rfl,{ x with c:={ x.c with inn:=d.size } },fun K n h hd=>h.p2 hd hkk,⟨hR,hq.rr rfl rfl rfl rfl rfl rfl rfl rfl,hSR.rb⟩,hMV,fun i hi=>.inl hi⟩⟩
   ·
    refine rg (sq (eZ rfl rfl) (aW (.bool (decide (((d.kind:Int):Int)=(3:Int)))) rfl (nx ?_)))
    refine cd rfl (fun c22=>?_) (fun c22=>?_)
    ·
     refine eO (bI s0 (sq (Bc s3) (sq (cZ rfl (B1.cell 3 rfl)) (sq (dF rfl) (sq (fU rfl) (sq (IU rfl) (eP hR sizeOf2 rfl rfl rfl rfl fun w23 hRn O23 z23 =>?_)))))))
     replace hR:=hRn
     have hMV:=hMV.only O23 hrm.symm
     have m24:KM (fun i=>i=rr\/i=mb\/bX x i) w w23:=hkm.only O23 (.inl (Or.inl rfl))
     have m25:KM (·=rr) w10 w23:=(aD8 _ _).only O23 (.inl rfl)
     refine nl (pI ?_)
     have hkk:d.kind=3:=by have:=aBp c22;omega
     have hq:=hSR.rows.km m25 (fun i hi (e:i=rr)=>by have:=(hSR.rows.ge i hi).1;have:=hSR.rb;omega)
     exact fV rfl ⟨m24,.inl ⟨_,rfl,{ x with c:={ x.c with out:=d.size } },fun K n h hd=>h.p3 hd hkk,⟨hR,hq.rr rfl rfl rfl rfl rfl rfl rfl rfl,hSR.rb⟩,hMV,fun i hi=>.inl hi⟩⟩
    ·
     refine rg (sq (eZ rfl rfl) (aW (.bool (decide (((d.kind:Int):Int)=(4:Int)))) rfl (nx ?_)))
     refine cd rfl (fun c26=>?_) (fun c26=>?_)
     ·
      have hvl:∀ i,Value.ownBlock x.vm=some i->i<w10.heap.size:=bA hSR.rows.m
      have nrr:¬ Value.ownBlock x.vm=some rr:=fun e=>by have:=(aM hSR.rows.m) _ e;have:=hSR.rb;omega
      have nmb:¬ Value.ownBlock x.vm=some mb:=fun e=>by have:=(aM hSR.rows.m) _ e;omega
      have ndb:¬ Value.ownBlock x.vm=some w.heap.size:=fun e=>by have:=bA hS.rows.m _ e;omega
      have hzz:base<=w10.heap.size:=aC7 hbw hkm.size
      refine eDS 9 (fun _ _=>False) (Cm (V:=(vE (pt rr (0)))::(vE (pt rr (0)))::(vE (pt rr (0)))::(vE (pt rr (0)))::(vE (pt rr (9)))::(vE (.slice x.mb x.c.make.length x.mc))::(vE (.agg (d.cells.toList).toArray))::(fun v W=>∃ (bk:Nat),v=.slice (some ⟨bk,0,none⟩) 1 1/\w10.heap.size<=bk/\Bk bk [.int .u8 (d.kind:Int),.string d.name,.string d.pool,zi d.size,.bool d.opn] 220 W)::(fun v W=>∃ (b:Option Addr) (c:Nat),v=.slice b (x.c.make.length+1) c/\W.ownsRow base 220 5 (.slice b (x.c.make.length+1) c) (x.c.make.length+1) ((x.c.make.flatMap fZ)++[.int .u8 (d.kind:Int),.string d.name,.string d.pool,zi d.size,.bool d.opn])/\((Value.slice b (x.c.make.length+1) c).ownBlock=x.vm.ownBlock\/∃ s,(Value.slice b (x.c.make.length+1) c).ownBlock=some s/\w10.heap.size<=s))::[]) (M:=fun i=>Value.ownBlock x.vm=some i) (li:=8) (P:=fun W=>W.ownsRow base 220 5 x.vm x.c.make.length (x.c.make.flatMap fZ)) (P1:=fun _=>True) rfl ⟨nZ aC,nZ aC,nZ aC,nZ aC,nZ aC,nZ aC,nZ aC,nZ (fun v a b ⟨bk,e,h,hB⟩ k=>⟨bk,e,h,hB.km k (fun e=>by have:=hvl _ e;omega)⟩),⟨fun v a b ⟨bb,c,e,h,q⟩ k=>⟨bb,c,e,bE h k,q⟩,fun e=>(by cases e)⟩,trivial⟩ rfl (fun a b h k=>bE h k) (fun _ _ _ _=>trivial)) [(0,57),(8,65)] [] rfl (by kernel_rfl) rfl rfl rfl (by decide) rfl rfl hSR.rows.m (fun _ _ _ h=>h.elim) (fun Sd=>⟨
       bF Sd rfl s0,
       bF Sd rfl s0,
       aP [1] Sd rfl fun h=>dF h.1,
       aP [2] Sd rfl fun h=>fU h.1,
       aP [3] Sd rfl fun h=>Fj h.1,
       fY [4] Sd rfl fun hT h=>WN h.1 ((hR.km hT nrr).cell 9 rfl),
       iG 3 Sd rfl fun hT q=>uI (q.trans s3) ((B1.km hT ndb).range) rfl,
       oW [(6,63)] [] Sd rfl fun _ _ hT h _=>(Sc (cs:=[.int .u8 (d.kind:Int),.string d.name,.string d.pool,zi d.size,.bool d.opn]) underlying94 mW rfl rfl h.1 rfl rfl (fun w' hB hb=>⟨hb,_,rfl,hT.size,hB⟩)),
       oc 0 [(5,62),(7,64)] [] rfl rfl rfl (by rintro g1 w1 hT ⟨h5,h7,-⟩ - hO0;exact (by obtain ⟨bk,e12,hle,hBk⟩:=h7;have hz:=hT.size;exact Ts (m:=1) (sz:=5) underlying94 mW rfl (aA1 rfl) h5 hO0 e12 (news:=[.int .u8 (d.kind:Int),.string d.name,.string d.pool,zi d.size,.bool d.opn]) rfl hBk.range rfl (by simp only [maxLen];omega) (by omega) (by omega) (fun v' w' h2 h3 h5'=>by obtain ⟨b',c',rfl,-⟩:=eG h2;exact ⟨h3,⟨b',c',rfl,h2,h5'.imp id fun e=>⟨_,e,hz⟩⟩,trivial⟩))),
       trivial⟩) ?_
      rintro g27 w27 k27 ⟨s57,s65,-⟩ - -
      obtain ⟨ob27,oc27,s65,hO27,ha27⟩:=s65
      have hR:=hR.km k27 nrr
      have hMV:=hMV.km k27 nmb
      have m28:KM (fun i=>i=rr\/i=mb\/bX x i) w w27:=hkm.next k27 (fun i h=>.inl (.inr (.inr (.inr (.inl h)))))
      have nor27:∀ i,Value.ownBlock (Value.slice ob27 (x.c.make.length+1) oc27)=some i->i≠rr:=fun i hi e=>by subst e;rcases ha27 with h | ⟨s,h,h2⟩;exact nrr (h ▸ hi);rw [h] at hi;cases hi;have:=hSR.blk.lt;omega
      refine sq (dF s57) (sq (fU rfl) (sq (Fj rfl) (eP hR sizeOf94 rfl s65 rfl rfl fun w29 hRn O29 z29 =>?_)))
      replace hR:=hRn
      have hMV:=hMV.only O29 hrm.symm
      have hO27:=eF hO27 O29 nor27
      have m30:KM (fun i=>i=rr\/i=mb\/bX x i) w w29:=m28.only O29 (.inl (Or.inl rfl))
      have m31:KM (fun i=>i=rr\/Value.ownBlock x.vm=some i) w10 w29:=(aD9 k27 (fun _ _ h=>Or.inr h)).only O29 (.inl (Or.inl rfl))
      refine nl (pI ?_)
      have hkk:d.kind=4:=by have:=aBp c26;omega
      have hSRn:=hSR.grow_m (l:=x.c.make++[d]) m31 (by simp) hR (by rw [aBb];exact hO27) ha27
      have hown0:∀ i,Value.ownBlock (Value.slice ob27 (x.c.make.length+1) oc27)=some i->bX x i\/w.heap.size<=i:=fun i hi=>by rcases ha27 with h | ⟨s,h,h2⟩;exact .inl (.inr (.inl (h ▸ hi)));rw [h] at hi;cases hi;exact .inr (aC7 hkm.size h2)
      have hown1:∀ i,Value.ownBlock (Value.slice ob27 (x.c.make++[d]).length oc27)=some i->bX x i\/w.heap.size<=i:=fun i hi=>hown0 i (by cases ob27 <;> exact hi)
      exact fV rfl ⟨m30,.inl ⟨_,rfl,_,fun K n h hd=>h.p4 hd,hSRn,hMV,fun i hi=>by rcases hi with h | h | h | h;exact .inl (.inl h);exact hown1 i h;exact .inl (.inr (.inr (.inl h)));exact .inl (.inr (.inr (.inr h)))⟩⟩
     ·
      refine rg (sq (eZ rfl rfl) (aW (.bool (decide (((d.kind:Int):Int)=(5:Int)))) rfl (nx ?_)))
      refine cd rfl (fun c32=>?_) (fun c32=>?_)
      ·
       have hvl:∀ i,Value.ownBlock x.vd=some i->i<w10.heap.size:=bA hSR.rows.d
       have nrr:¬ Value.ownBlock x.vd=some rr:=fun e=>by have:=(aM hSR.rows.d) _ e;have:=hSR.rb;omega
       have nmb:¬ Value.ownBlock x.vd=some mb:=fun e=>by have:=(aM hSR.rows.d) _ e;omega
       have ndb:¬ Value.ownBlock x.vd=some w.heap.size:=fun e=>by have:=bA hS.rows.d _ e;omega
       have hzz:base<=w10.heap.size:=aC7 hbw hkm.size
       refine eDS 10 (fun _ _=>False) (Cm (V:=(vE (pt rr (0)))::(vE (pt rr (0)))::(vE (pt rr (0)))::(vE (pt rr (0)))::(vE (pt rr (10)))::(vE (.slice x.db x.c.drop.length x.dc))::(vE (pt w.heap.size (1)))::(vE (.string d.name))::(fun v W=>∃ (bk:Nat),v=.slice (some ⟨bk,0,none⟩) 1 1/\w10.heap.size<=bk/\Bk bk [.string d.name] 9 W)::(fun v W=>∃ (b:Option Addr) (c:Nat),v=.slice b (x.c.drop.length+1) c/\W.ownsRow base 9 1 (.slice b (x.c.drop.length+1) c) (x.c.drop.length+1) ((sv x.c.drop)++[.string d.name])/\((Value.slice b (x.c.drop.length+1) c).ownBlock=x.vd.ownBlock\/∃ s,(Value.slice b (x.c.drop.length+1) c).ownBlock=some s/\w10.heap.size<=s))::[]) (M:=fun i=>Value.ownBlock x.vd=some i) (li:=9) (P:=fun W=>W.ownsRow base 9 1 x.vd x.c.drop.length (sv x.c.drop)) (P1:=fun _=>True) rfl ⟨nZ aC,nZ aC,nZ aC,nZ aC,nZ aC,nZ aC,nZ aC,nZ aC,nZ (fun v a b ⟨bk,e,h,hB⟩ k=>⟨bk,e,h,hB.km k (fun e=>by have:=hvl _ e;omega)⟩),⟨fun v a b ⟨bb,c,e,h,q⟩ k=>⟨bb,c,e,bE h k,q⟩,fun e=>(by cases e)⟩,trivial⟩ rfl (fun a b h k=>bE h k) (fun _ _ _ _=>trivial)) [(0,71),(9,80)] [] rfl (by kernel_rfl) rfl rfl rfl (by decide) rfl rfl hSR.rows.d (fun _ _ _ h=>h.elim) (fun Sd=>⟨
        bF Sd rfl s0,
        bF Sd rfl s0,
        aP [1] Sd rfl fun h=>dF h.1,
        aP [2] Sd rfl fun h=>fU h.1,
        aP [3] Sd rfl fun h=>Bu h.1,
        fY [4] Sd rfl fun hT h=>It h.1 ((hR.km hT nrr).cell 10 rfl),
        jA 3 Sd rfl fun q=>Br (q.trans s3),
        fY [6] Sd rfl fun hT h=>nY h.1 ((B1.km hT ndb).cell 1 rfl),
        oW [(7,78)] [] Sd rfl fun _ _ hT h _=>(Sc (cs:=[.string d.name]) underlying95 oB rfl rfl h.1 rfl rfl (fun w' hB hb=>⟨hb,_,rfl,hT.size,hB⟩)),
        oc 0 [(5,76),(8,79)] [] rfl rfl rfl (by rintro g1 w1 hT ⟨h5,h8,-⟩ - hO0;exact (by obtain ⟨bk,e12,hle,hBk⟩:=h8;have hz:=hT.size;exact Ts (m:=1) (sz:=1) underlying95 oB rfl (aA1 rfl) h5 hO0 e12 (news:=[.string d.name]) rfl hBk.range rfl (by simp only [maxLen];omega) (by omega) (by omega) (fun v' w' h2 h3 h5'=>by obtain ⟨b',c',rfl,-⟩:=eG h2;exact ⟨h3,⟨b',c',rfl,h2,h5'.imp id fun e=>⟨_,e,hz⟩⟩,trivial⟩))),
        trivial⟩) ?_
       rintro g33 w33 k33 ⟨s71,s80,-⟩ - -
       obtain ⟨ob33,oc33,s80,hO33,ha33⟩:=s80
       have hR:=hR.km k33 nrr
       have hMV:=hMV.km k33 nmb
       have m34:KM (fun i=>i=rr\/i=mb\/bX x i) w w33:=hkm.next k33 (fun i h=>.inl (.inr (.inr (.inr (.inr (.inl h))))))
       have nor33:∀ i,Value.ownBlock (Value.slice ob33 (x.c.drop.length+1) oc33)=some i->i≠rr:=fun i hi e=>by subst e;rcases ha33 with h | ⟨s,h,h2⟩;exact nrr (h ▸ hi);rw [h] at hi;cases hi;have:=hSR.blk.lt;omega
       refine sq (dF s71) (sq (fU rfl) (sq (Bu rfl) (eP hR sizeOf95 rfl s80 rfl rfl fun w35 hRn O35 z35 =>?_)))
       replace hR:=hRn
       have hMV:=hMV.only O35 hrm.symm
       have hO33:=eF hO33 O35 nor33
       have m36:KM (fun i=>i=rr\/i=mb\/bX x i) w w35:=m34.only O35 (.inl (Or.inl rfl))
       have m37:KM (fun i=>i=rr\/Value.ownBlock x.vd=some i) w10 w35:=(aD9 k33 (fun _ _ h=>Or.inr h)).only O35 (.inl (Or.inl rfl))
       refine nl (pI ?_)
       have hkk:d.kind=5:=by have:=aBp c32;omega
       have hSRn:=hSR.grow_d (l:=x.c.drop++[d.name]) m37 (by simp) hR (by rw [Pc];exact hO33) ha33
       have hown0:∀ i,Value.ownBlock (Value.slice ob33 (x.c.drop.length+1) oc33)=some i->bX x i\/w.heap.size<=i:=fun i hi=>by rcases ha33 with h | ⟨s,h,h2⟩;exact .inl (.inr (.inr (.inl (h ▸ hi))));rw [h] at hi;cases hi;exact .inr (aC7 hkm.size h2)
       have hown1:∀ i,Value.ownBlock (Value.slice ob33 (x.c.drop++[d.name]).length oc33)=some i->bX x i\/w.heap.size<=i:=fun i hi=>hown0 i (by cases ob33 <;> exact hi)
       exact fV rfl ⟨m36,.inl ⟨_,rfl,_,fun K n h hd=>h.p5 hd hkk,hSRn,hMV,fun i hi=>by rcases hi with h | h | h | h;exact .inl (.inl h);exact .inl (.inr (.inl h));exact hown1 i h;exact .inl (.inr (.inr (.inr h)))⟩⟩
      ·
       refine rg (sq (eZ rfl rfl) (aW (.bool (decide (((d.kind:Int):Int)=(6:Int)))) rfl (nx ?_)))
       refine cd rfl (fun c38=>?_) (fun c38=>?_)
       ·
        have hvl:∀ i,Value.ownBlock x.vu=some i->i<w10.heap.size:=bA hSR.rows.u
        have nrr:¬ Value.ownBlock x.vu=some rr:=fun e=>by have:=(aM hSR.rows.u) _ e;have:=hSR.rb;omega
        have nmb:¬ Value.ownBlock x.vu=some mb:=fun e=>by have:=(aM hSR.rows.u) _ e;omega
        have ndb:¬ Value.ownBlock x.vu=some w.heap.size:=fun e=>by have:=bA hS.rows.u _ e;omega
        have hzz:base<=w10.heap.size:=aC7 hbw hkm.size
        refine eDS 10 (fun _ _=>False) (Cm (V:=(vE (pt rr (0)))::(vE (pt rr (0)))::(vE (pt rr (0)))::(vE (pt rr (0)))::(vE (pt rr (11)))::(vE (.slice x.ub x.c.use.length x.uc))::(vE (pt w.heap.size (1)))::(vE (.string d.name))::(fun v W=>∃ (bk:Nat),v=.slice (some ⟨bk,0,none⟩) 1 1/\w10.heap.size<=bk/\Bk bk [.string d.name] 9 W)::(fun v W=>∃ (b:Option Addr) (c:Nat),v=.slice b (x.c.use.length+1) c/\W.ownsRow base 9 1 (.slice b (x.c.use.length+1) c) (x.c.use.length+1) ((sv x.c.use)++[.string d.name])/\((Value.slice b (x.c.use.length+1) c).ownBlock=x.vu.ownBlock\/∃ s,(Value.slice b (x.c.use.length+1) c).ownBlock=some s/\w10.heap.size<=s))::[]) (M:=fun i=>Value.ownBlock x.vu=some i) (li:=9) (P:=fun W=>W.ownsRow base 9 1 x.vu x.c.use.length (sv x.c.use)) (P1:=fun _=>True) rfl ⟨nZ aC,nZ aC,nZ aC,nZ aC,nZ aC,nZ aC,nZ aC,nZ aC,nZ (fun v a b ⟨bk,e,h,hB⟩ k=>⟨bk,e,h,hB.km k (fun e=>by have:=hvl _ e;omega)⟩),⟨fun v a b ⟨bb,c,e,h,q⟩ k=>⟨bb,c,e,bE h k,q⟩,fun e=>(by cases e)⟩,trivial⟩ rfl (fun a b h k=>bE h k) (fun _ _ _ _=>trivial)) [(0,86),(9,95)] [] rfl (by kernel_rfl) rfl rfl rfl (by decide) rfl rfl hSR.rows.u (fun _ _ _ h=>h.elim) (fun Sd=>⟨
         bF Sd rfl s0,
         bF Sd rfl s0,
         aP [1] Sd rfl fun h=>dF h.1,
         aP [2] Sd rfl fun h=>fU h.1,
         aP [3] Sd rfl fun h=>yF h.1,
         fY [4] Sd rfl fun hT h=>It h.1 ((hR.km hT nrr).cell 11 rfl),
         jA 3 Sd rfl fun q=>Br (q.trans s3),
         fY [6] Sd rfl fun hT h=>nY h.1 ((B1.km hT ndb).cell 1 rfl),
         oW [(7,93)] [] Sd rfl fun _ _ hT h _=>(Sc (cs:=[.string d.name]) underlying95 oB rfl rfl h.1 rfl rfl (fun w' hB hb=>⟨hb,_,rfl,hT.size,hB⟩)),
         oc 0 [(5,91),(8,94)] [] rfl rfl rfl (by rintro g1 w1 hT ⟨h5,h8,-⟩ - hO0;exact (by obtain ⟨bk,e12,hle,hBk⟩:=h8;have hz:=hT.size;exact Ts (m:=1) (sz:=1) underlying95 oB rfl (aA1 rfl) h5 hO0 e12 (news:=[.string d.name]) rfl hBk.range rfl (by simp only [maxLen];omega) (by omega) (by omega) (fun v' w' h2 h3 h5'=>by obtain ⟨b',c',rfl,-⟩:=eG h2;exact ⟨h3,⟨b',c',rfl,h2,h5'.imp id fun e=>⟨_,e,hz⟩⟩,trivial⟩))),
         trivial⟩) ?_
        rintro g39 w39 k39 ⟨s86,s95,-⟩ - -
        obtain ⟨ob39,oc39,s95,hO39,ha39⟩:=s95
        have hR:=hR.km k39 nrr
        have hMV:=hMV.km k39 nmb
        have m40:KM (fun i=>i=rr\/i=mb\/bX x i) w w39:=hkm.next k39 (fun i h=>.inl (.inr (.inr (.inr (.inr (.inr h))))))
        have nor39:∀ i,Value.ownBlock (Value.slice ob39 (x.c.use.length+1) oc39)=some i->i≠rr:=fun i hi e=>by subst e;rcases ha39 with h | ⟨s,h,h2⟩;exact nrr (h ▸ hi);rw [h] at hi;cases hi;have:=hSR.blk.lt;omega
        refine sq (dF s86) (sq (fU rfl) (sq (yF rfl) (eP hR sizeOf95 rfl s95 rfl rfl fun w41 hRn O41 z41 =>?_)))
        replace hR:=hRn
        have hMV:=hMV.only O41 hrm.symm
        have hO39:=eF hO39 O41 nor39
        have m42:KM (fun i=>i=rr\/i=mb\/bX x i) w w41:=m40.only O41 (.inl (Or.inl rfl))
        have m43:KM (fun i=>i=rr\/Value.ownBlock x.vu=some i) w10 w41:=(aD9 k39 (fun _ _ h=>Or.inr h)).only O41 (.inl (Or.inl rfl))
        refine nl (pI ?_)
        have hkk:d.kind=6:=by have:=aBp c38;omega
        have hSRn:=hSR.grow_u (l:=x.c.use++[d.name]) m43 (by simp) hR (by rw [Pc];exact hO39) ha39
        have hown0:∀ i,Value.ownBlock (Value.slice ob39 (x.c.use.length+1) oc39)=some i->bX x i\/w.heap.size<=i:=fun i hi=>by rcases ha39 with h | ⟨s,h,h2⟩;exact .inl (.inr (.inr (.inr (h ▸ hi))));rw [h] at hi;cases hi;exact .inr (aC7 hkm.size h2)
        have hown1:∀ i,Value.ownBlock (Value.slice ob39 (x.c.use++[d.name]).length oc39)=some i->bX x i\/w.heap.size<=i:=fun i hi=>hown0 i (by cases ob39 <;> exact hi)
        exact fV rfl ⟨m42,.inl ⟨_,rfl,_,fun K n h hd=>h.p6 hd hkk,hSRn,hMV,fun i hi=>by rcases hi with h | h | h | h;exact .inl (.inl h);exact .inl (.inr (.inl h));exact .inl (.inr (.inr (.inl h)));exact hown1 i h⟩⟩
       ·
        refine aG (pI ?_)
        have hq:=hSR.rows.km (aD8 _ _) (fun i hi (e:i=rr)=>by have:=(hSR.rows.ge i hi).1;have:=hSR.rb;omega)
        exact fV rfl ⟨hkm,.inl ⟨_,rfl,x,fun K n h hd=>h.up (aDq n),⟨hR,hq.rr rfl rfl rfl rfl rfl rfl rfl rfl,hSR.rb⟩,hMV,fun i hi=>.inl hi⟩⟩
end
def eS (L:List ByteArray):List (Int × ByteArray):=(List.range L.length).map fun (k:Nat)=>((k:Int)+1,L[k]!)
theorem oJ (L:List ByteArray):(eS L).length=L.length:=by simp [eS]
theorem zL {L:List ByteArray} {k:Nat} (hk:k<L.length):(eS L)[k]'(by rw [oJ];exact hk)=((k:Int)+1,L[k]):=by simp [eS,hk]
def encL (p:Int × ByteArray):List Value:=[zi p.1,.string p.2]
theorem IL (bs) (s) (w) (hB0:Bk bs [.string s] 9 w) (hm0:lY w) (hs:s.size<=10000):
  Ry 175 [pt bs 0] encL (eS (aI ⟨#[10]⟩ s)) (fun _=>True) w:=by
 intro l M J Jx Pn W0 hW hMok hM2 st stx j0 rounds
 have hB:=hB0.below hW
 have hm:=hm0.below hW
 refine aJ (n:=20) func175 rfl ntmps175 (aA1 rfl) (rg (sq (nY rfl (hB.cell 0 rfl)) (cE PA (a2 rfl rfl) (zV ⟨#[10]⟩ s _ hm (by omega) (aDl 1)) ?_)))
 rintro _ w1 k1 ⟨rfl,B1,z1⟩
 refine sq (aY underlying95 rfl) (rU (nx ?_))
 refine bD (fun k g W=>∃ S:Nat,∃ R:Nat->Prop,g 8=zi ((k:Nat):Int)/\g 7=zi ((((aI ⟨#[10]⟩ s).length:Nat)):Int)/\g 0=yf l/\g 6=.slice (some ⟨W0.heap.size,0,none⟩) ((aI ⟨#[10]⟩ s).length) ((aI ⟨#[10]⟩ s).length)/\Bk W0.heap.size (sv (aI ⟨#[10]⟩ s)) 9 W/\(J S R k W/\W0.heap.size<=S/\S<=W.heap.size/\(∀ i,R i->S<=i/\i<W.heap.size)/\W0.heap.size<S)) ((aI ⟨#[10]⟩ s).length) (by have:=(eX ⟨#[10]⟩ s (aDl 1)).2;omega) (fun _ _ _ ⟨S,R,h⟩=>⟨h.1,h.2.1⟩) ⟨w1.heap.size,fun _=>False,rfl,rfl,rfl,rfl,B1,⟨j0 _ k1,by omega,aDl _,fun _ h=>h.elim,by omega⟩⟩ rfl rfl (fun _ _ _ _ h=>h) ?_ ?_
 ·
  rintro k g2 w2 hk ⟨S,R,s8,s7,s0,s6,B1,hP⟩
  have hnS:¬ (M W0.heap.size\/R W0.heap.size):=nR (hM2 _ (aDl _)) (Gu hP.2.2.2.1 hP.2.2.2.2)
  refine rg (bI s8 (sq (bB underlying95 sizeOf9 s6 s8 hk) (sq (nY rfl (cQ Dd 1 pZ (by rw [pG];exact (Bk.range B1)) (aEf B1) (aDt _ _) hk 0 _ rfl)) (aW (zi (k:Nat)) rfl (aW (.string ((aI ⟨#[10]⟩ s)[k])) rfl (nx (rg (bI s0 (aN (zi (k:Nat)) rfl (sq (iK rfl rfl (⟨by have:=(eX ⟨#[10]⟩ s (aDl 1)).2;omega,by have:=(eX ⟨#[10]⟩ s (aDl 1)).2;omega⟩)) (aN (.string ((aI ⟨#[10]⟩ s)[k])) rfl ?_)))))))))))
  have hy:=rounds S R k _ (by rw [oJ];exact hk) hP.1 hP.2.1 hP.2.2.1 hP.2.2.2.1
  rw [zL hk] at hy
  refine cyB rfl (a2 rfl rfl) hy (fun c w' h=>And.intro (rfl:(fr _ [] _).defers=[]) (Or.inr ⟨c,rfl,h⟩)) fun t3 w3 k3 jt3 jf3 =>?_
  have B1:=B1.km k3 hnS
  refine sq (cJ rfl) (nx ?_)
  refine cd rfl (fun c4=>?_) (fun c4=>?_)
  ·
   exact aE (uS rfl (Or.inl ⟨_,rfl,S,R,hP.2.1,(aC7 hP.2.2.1 k3.size),Or.inr (jf3 (nt c4))⟩))
  ·
   refine aG ?_
   obtain ⟨R2,hJ2,hRs⟩:=jt3 (tt c4)
   exact dO ⟨⟨S,R2,rfl,s7,s0,s6,B1,⟨hJ2,hP.2.1,(aC7 hP.2.2.1 k3.size),Bp hP.2.2.2.1 hRs (aDl _) hP.2.2.1 k3.size,hP.2.2.2.2⟩⟩,s8⟩
 ·
  rintro g5 w5 ⟨S,R,s8,s7,s0,s6,B1,hP⟩
  rw [<- oJ] at hP
  exact fV rfl (Or.inl ⟨_,rfl,S,R,hP.2.1,hP.2.2.1,Or.inl hP.1⟩)
theorem Mx (s) (w):cT 130 [.string s] w fun v W=>∃ b,v=.func (.func 175) [].toArray [pt b 0].toArray/\w.heap.size<=b/\Bk b [.string s] 9 W:=by
 refine aJ (n:=4) func130 rfl ntmps130 (aA1 rfl) (rg (cO (cs:=[.string s]) rfl rfl fun w1 B1 k1 z1 =>?_))
 have leB1:=aDl w.heap.size
 exact aW (.nilFunc) rfl (nx (rg (sq (Aa rfl) (aW (.func (.func 175) #[] #[pt w.heap.size (0)]) rfl (nx (aE (fO rfl ⟨_,rfl,k1,_,rfl,aDl _,B1⟩)))))))
abbrev Sp (f b c:Nat):Deferred:={ target:=.fn (.func f) #[pt b 0,pt c 0],args:=#[] }
section
variable {n:Nat} {ds:List Deferred} {g:Nat->Value} {w:World} {Q:Exit->Act->World->Prop} {l:List Oper} {ops:Array Oper} {ty:TypeId} {pos:String} {aft:Array Edge} {x:Operand} {ts:Array TypeId}
theorem JS (hx:ev n g x=.func (.func f) #[] #[pt b 0,pt c 0]) (h:dY none ops Q l (fr n (Sp f b c::ds) g) w):dY none ops Q (⟨none,.defer ⟨.value x,#[],ts⟩,ty,pos,aft,none⟩::l) (fr n ds g) w:=by
 refine eM rfl fun K hK=>?_
 refine ⟨fun _ _=>trivial,?_⟩
 have hr:(execOp (fr n ds g).eval ⟨none,.defer ⟨.value x,#[],ts⟩,ty,pos,aft,none⟩).run prog w=.ok (.defer (Sp f b c)) w:=by
  rw [bV]
  unfold execOp
  simp [resolve,hx,Deferred.ofValue]
 show Oper.uponIn (FR none) 0 prog _ _ K Q ((execOp (fr n ds g).eval ⟨none,.defer ⟨.value x,#[],ts⟩,ty,pos,aft,none⟩).run prog w)
 rw [hr]
 exact hK _ _ h
variable {fn:Func} {R:Ending->World->Prop} {f b c:Nat}
theorem lvD {u:FrameMode} {S:World->Prop} (hu:u≠.run) (ef:EN f) (hc:CallsDIn (FR none) 0 prog f [pt b 0,pt c 0].toArray u w (fun e u' w'=>e=.returned (.tuple #[])/\settle u'=.returning/\S w'))
  (h:∀ w',S w'->∃ v,(results fn (fr n [] g).tmps).run prog w'=.ok v w'/\R (.returned v) w'):LeavesInM (FR none) 0 prog fn (fr n ds g).tmps R [Sp f b c] u w:=by
 refine ⟨hu,.inr ⟨fun e=>(by cases e),.func f,#[pt b 0,pt c 0],f,[pt b 0,pt c 0].toArray,rfl,?_,fun _ _=>trivial,?_⟩⟩
 ·simp [invoke,ef]
 ·refine aC4 hc ?_
  rintro e u' w' ⟨rfl,hs,hS⟩
  show LeavesInM _ _ _ _ _ _ [] (settle u') w'
  rw [hs]
  exact h w' hS
theorem Xe {S:World->Prop} (ef:EN f) (hd:w.heap[D]? = some (.deferred (some []))) (hc:∀ w1,aS D w w1->CallsDIn (FR none) 0 prog f [pt b 0,pt c 0].toArray .returning w1 (fun e u' w'=>e=.returned (.tuple #[])/\settle u'=.returning/\S w'))
  (h:∀ w',S w'->∃ v,(results fn (fr n [] g).tmps).run prog w'=.ok v w'/\R (.returned v) w'):bodyPostM (FR none) 0 prog fn R .ret (fr n [rS D,Sp f b c] g) w:=by
 refine ⟨by simp,.inl ⟨D,_,rfl,run_takeDeferred hd,?_⟩⟩
 exact lvD (ds:=[]) (by simp) ef (hc _ (lL _ _)) h
theorem UX {S:World->Prop} {p:List PanicEntry} (ef:EN f) (hd:w.heap[D]? = some (.deferred (some []))) (hc:∀ w1,aS D w w1->CallsDIn (FR none) 0 prog f [pt b 0,pt c 0].toArray (.panicking p) w1 (fun e u' w'=>e=.returned (.tuple #[])/\settle u'=.returning/\S w'))
  (h:∀ w',S w'->∃ v,(results fn (fr n [] g).tmps).run prog w'=.ok v w'/\R (.returned v) w'):bodyPostM (FR none) 0 prog fn R (.panic p) (fr n [rS D,Sp f b c] g) w:=by
 refine ⟨by simp,.inl ⟨D,_,rfl,run_takeDeferred hd,?_⟩⟩
 exact lvD (ds:=[]) (by simp) ef (hc _ (lL _ _)) h
theorem OW {S:World->Prop} (ef:EN f) (hc:CallsDIn (FR none) 0 prog f [pt b 0,pt c 0].toArray .returning w (fun e u' w'=>e=.returned (.tuple #[])/\settle u'=.returning/\S w'))
  (h:∀ w',S w'->∃ v,(results fn (fr n [] g).tmps).run prog w'=.ok v w'/\R (.returned v) w'):bodyPostM (FR none) 0 prog fn R .ret (fr n [Sp f b c] g) w:=lvD (ds:=[]) (by simp) ef hc h
theorem TC {S:World->Prop} {p:List PanicEntry} (ef:EN f) (hc:CallsDIn (FR none) 0 prog f [pt b 0,pt c 0].toArray (.panicking p) w (fun e u' w'=>e=.returned (.tuple #[])/\settle u'=.returning/\S w'))
  (h:∀ w',S w'->∃ v,(results fn (fr n [] g).tmps).run prog w'=.ok v w'/\R (.returned v) w'):bodyPostM (FR none) 0 prog fn R (.panic p) (fr n [Sp f b c] g) w:=lvD (ds:=[]) (by simp) ef hc h
end
theorem Qu (x):∀ (zs:List ByteArray) (i:Nat),0<=Lib.idxFromS zs x i->∃ k,k<zs.length/\Lib.idxFromS zs x i=((i+k:Nat):Int)/\zs[k]? = some x
 | [],i,h=>by simp [Lib.idxFromS] at h
 | z::zs,i,h=>by
  unfold Lib.idxFromS at h ⊢
  by_cases e:z=x
  ·rw [aEc e];exact ⟨0,by simp,by simp,by simp [e]⟩
  ·rw [aEd e] at h ⊢
   obtain ⟨k,h1,h2,h3⟩:=Qu x zs (i+1) h
   exact ⟨k+1,by simp;omega,by rw [h2];congr 1;omega,by simpa using h3⟩
theorem Ug {W:Nat->ByteArray} (h:1<=kL W s):(kL W s).toNat<=6/\W (kL W s).toNat=s:=by
 unfold kL Lib.idxOfS at h ⊢
 obtain ⟨k,h1,h2,h3⟩:=Qu s ((List.range 7).map W) 0 (by omega)
 rw [h2]
 simp at h1
 rw [List.getElem?_map,List.getElem?_range h1] at h3
 simp only [Option.map_some,aBv] at h3
 simp
 exact ⟨by omega,h3⟩
theorem Sy (h:wR u≠0):0<wR u:=by
 rcases zW h with rfl | h1
 ·decide
 ·simp only [aC0,aBy,or_false] at h1
  rcases h1 with rfl | rfl | rfl | rfl | rfl | rfl | rfl | rfl <;> decide
theorem Gv (l):0<=gR l/\gR l<=1099511627776:=by
 unfold gR
 split
 ·rename_i h
  unfold qJ at h
  simp only [aB0,aBq] at h
  have hp:=Sy h.1.2
  exact ⟨Int.mul_nonneg (by omega) (by omega),(Int.le_ediv_iff_mul_le hp).1 h.2⟩
 ·omega
structure GR (j:Nat) (d:dN):Prop where
 kind:d.kind=j
 name:d.name.size<=500
 pool:d.pool.size<=500
 lo:-9223372036854775808<=d.size
 hi:d.size<=9223372036854775807
theorem GR.put {d:dN} (h:GR j d) (key) (hs:s.size<=500):GR j (Gi d key s):=by
 unfold Gi
 have hv:=Gv s.data.toList
 split
 ·exact ⟨h.kind,h.name,h.pool,by show _<=gR _;omega,by show gR _<=_;omega⟩
 ·split
  ·exact ⟨h.kind,hs,h.pool,h.lo,h.hi⟩
  ·split
   ·exact ⟨h.kind,h.name,hs,h.lo,h.hi⟩
   ·exact ⟨h.kind,h.name,h.pool,h.lo,h.hi⟩
theorem GR.fold: ∀ (r:List ByteArray) (due:List (List UInt8)) (d:dN),(∀ f∈r,f.size<=500)->GR j d->∀ due' d',rO due d r=some (due',d')->GR j d'
 | [],due,d,_,h,due',d',e=>by simp only [rO,aBv,Prod.mk.injEq] at e;rw [<- e.2];exact h
 | f::r,due,d,hr,h,due',d',e=>by
  unfold rO at e
  simp only at e
  split at e
  ·exact GR.fold r _ _ (fun x hx=>hr x (by simp [hx])) (h.put _ (aC7 (oA f 61).2 (hr f (by simp)))) due' d' e
  ·cases e
theorem GZ (W:Nat->ByteArray) (s) (d) (h:iI W s=some d):fD W d:=by
 unfold iI at h
 split at h
 ·rename_i hs
  split at h
  ·rename_i m k r hsp
   split at h
   ·rename_i hk
    split at h
    ·rename_i due d' hf
     split at h
     ·cases h
      have hmem:∀ f∈m::k::r,f.size<=500:=fun f hf=>aC7 (lT (sep:=JM) (by rw [hsp];exact hf)) hs
      have hd:=GR.fold (j:=(kL W k).toNat) r _ _ (fun f hf=>hmem f (by simp [hf])) ⟨rfl,aDm _,aDm _,by show (-9223372036854775808:Int)<=0;omega,by show (0:Int)<=_;omega⟩ _ _ hf
      obtain ⟨h1,h2⟩:=Ug hk.2
      refine ⟨by rw [hd.kind];omega,fun _ _=>?_,by have:=hd.name;omega,by have:=hd.pool;omega,hd.lo,hd.hi⟩
      rw [hd.kind,h2]
      have:=hmem k (by simp);omega
     ·cases h
    ·cases h
   ·cases h
  ·cases h
 ·cases h
section
open Go.Proofs.Tryz
open Go.RowKit Go.Maps
def CK:bS:={ c:=⟨⟨#[]⟩,0,0,0,[],0,0,0,⟨#[]⟩,[],[],[]⟩,ab:=none,ac:=0,mb:=none,mc:=0,db:=none,dc:=0,ub:=none,uc:=0 }
theorem pQ (K:Nat->ByteArray):lD K 0 CK.c where
 dirs:=fun d h=>(by cases h)
 user:=aDm _
 pool:=aDm _
 drop:=fun d h=>(by cases h)
 use:=fun d h=>(by cases h)
 afterN:=aDm _
 makeN:=aDl _
 dropN:=aDl _
 useN:=aDl _
 w1:=fun h=>absurd rfl h
 w2:=fun h=>absurd rfl h
 w3:=fun h=>absurd rfl h
 w5:=fun h=>absurd rfl h
 w6:=fun h=>absurd rfl h
theorem wQ (base) (w):mV base CK w:=
 ⟨fL _ _ _ _,fL _ _ _ _,fL _ _ _ _,fL _ _ _ _,fun _ h=>(by cases h),fun _ h=>(by cases h),fun _ h=>(by cases h),fun _ h=>(by cases h),fun _ h=>(by cases h),fun _ h=>(by cases h)⟩
theorem zY (i):¬ bX CK i:=fun h=>by rcases h with h | h | h | h <;> cases h
theorem mV.at {x:bS} (h:mV base x w):x.At w where
 after:=by obtain ⟨b,c,e,hr⟩:=eG h.a;unfold bS.va at e;cases e;exact hr
 make:=by obtain ⟨b,c,e,hr⟩:=eG h.m;unfold bS.vm at e;cases e;exact hr
 drop:=by obtain ⟨b,c,e,hr⟩:=eG h.d;unfold bS.vd at e;cases e;exact hr
 use:=by obtain ⟨b,c,e,hr⟩:=eG h.u;unfold bS.vu at e;cases e;exact hr
theorem Vt (K:Nat->ByteArray) (s) (w) (hs:s.size<=10000) (hE:rI K w):cT 133 [.string s] w fun v _=>∃ (d:dN) (n:Int),v=.tuple [.agg d.cells,zi n].toArray/\iI K s=(if n=0 then some d else none):=
 (DP K s w (by omega) hE).mono fun e w' ⟨⟨d,n,he,hd⟩,hb⟩=>⟨_,he,hb,d,n,rfl,hd⟩
def NQ (K:Nat->ByteArray) (w:World) (v:Value) (W:World):Prop:=
 ∃ (x:bS) (e ln:Int),v=.tuple #[.agg x.cells.toArray,.agg #[zi e,zi ln]]/\x.At W/\mX K x.c/\rQ K x.c/\∀ i,bX x i->w.heap.size<=i
theorem Gk {g:Nat->Value} {ty:TypeId} {a1:Int} (h0:ev n g x0=zi a1):aL n g ⟨dd,.build 101 #[(0,x0)],ty,pos,aft,gd⟩ w (.agg [zi a1,aV].toArray):=
 iA (ps:=[(0,x0)]) (by simp only [aC3,aDb,h0];kernel_rfl)
theorem NS {n:Nat} {g:Nat->Value} {w:World} {dd:Option Tmp} {ty:TypeId} {pos:String} {aft:Array Edge} {gd:Option (Nat × Bool)} {x0:Operand} {a1:Nat} (h0:ev n g x0=.map (some a1)):aL n g ⟨dd,.build 215 #[(2,x0)],ty,pos,aft,gd⟩ w (.agg [.string (⟨#[]⟩),aV,aV,aV,cP,aV,aV,aV,.string (⟨#[]⟩),cP,cP,cP,aV,.map (some a1)].toArray):=
 iA (ps:=[(2,x0)]) (by simp only [aC3,aDb,h0];kernel_rfl)
theorem ZN {g:Nat->Value} {ty:TypeId}    : aL n g ⟨dd,.build 101 #[],ty,pos,aft,gd⟩ w (.agg [aV,aV].toArray):=
 iA (ps:=[]) (by simp only [aC3,aDb];kernel_rfl)
theorem Ot (K:Nat->ByteArray) (s) (w) (hE:rI K w):cT 48 [.string s] w (NQ K w):=by
 refine qV (n:=60) func48 rfl ntmps48 (aA1 rfl) ?_
 refine jI (Ae (eO (eA (cs:=Ij) zeroValue97 rfl fun w1 B1 k1 z1 =>?_)))
 have leB1:=aDl w.heap.size
 refine eA (cs:=[aV,aV]) zeroValue101 rfl fun w2 B2 k2 z2 =>?_
 have nB1_B2:=aC8 B1.lt
 have leB2:=k1.size
 have b3:=aDu k1 k2
 have B1:=B1.below k2
 refine nl (jI (Ae (rg (aN (.string s) rfl (sq (wD underlying9 rfl) (sq (gH rfl rfl) (nx ?_)))))))
 refine cd rfl (fun c4=>?_) (fun c4=>?_)
 ·
  refine rg (sq (bd97 ) (sq (Gk rfl) (bR (vs:=Ij) B1 sizeOf97 rfl rfl rfl rfl fun w5 B1n O5 z5 =>?_)))
  replace B1:=B1n
  have b6:=aS.toBelow O5 b3 b3.size leB1
  have B2:=B2.only O5 nB1_B2.symm
  refine bR (vs:=[zi (3),aV]) B2 sizeOf101 rfl rfl rfl rfl fun w7 B2n O7 z7 =>?_
  replace B2:=B2n
  have b8:=aS.toBelow O7 b6 b6.size leB2
  have B1:=B1.only O7 nB1_B2
  exact nx (aE (sN ⟨_,BG rfl rfl (vZ (cs:=Ij) isAgg97 sizeOf97 B1) rfl (vZ (cs:=[zi (3),aV]) isAgg101 sizeOf101 B2),_,rfl,b8,CK,3,0,rfl,(wQ 0 _).at,((pQ K).out (by omega)).1,((pQ K).out (by omega)).2,fun i hi=>(zY i hi).elim⟩))
 ·
  refine aG ?_
  refine jI (Ae (eO (sq (mf2 rfl rfl) (JS (f:=129) (b:=w.heap.size) (c:=w1.heap.size) rfl (nl ?_)))))
  refine jI (Ae (eO (VK 5 BX fun w9 hMV k9 z9 =>?_)))
  have nB1_hMV:=aC8 B1.lt
  have nB2_hMV:=aC8 B2.lt
  have lehMV:=b3.size
  have b10:=aDu b3 k9
  have B1:=B1.below k9
  have B2:=B2.below k9
  refine sq (NS rfl) (cO (cs:=[.string (⟨#[]⟩),aV,aV,aV,cP,aV,aV,aV,.string (⟨#[]⟩),cP,cP,cP,aV,.map (some w2.heap.size)]) rfl rfl fun w11 B11 k11 z11 =>?_)
  have nB1_B11:=aC8 B1.lt
  have nB2_B11:=aC8 B2.lt
  have nhMV_B11:=aC8 hMV.lt
  have leB11:=b10.size
  have b12:=aDu b10 k11
  have B1:=B1.below k11
  have B2:=B2.below k11
  have hMV:=hMV.below k11
  refine eA (cs:=[.pointer none]) zeroValue212 rfl fun w13 B13 k13 z13 =>?_
  have nB1_B13:=aC8 B1.lt
  have nB2_B13:=aC8 B2.lt
  have nhMV_B13:=aC8 hMV.lt
  have nB11_B13:=aC8 B11.lt
  have leB13:=b12.size
  have b14:=aDu b12 k13
  have B1:=B1.below k13
  have B2:=B2.below k13
  have hMV:=hMV.below k13
  have B11:=B11.below k13
  refine eP B13 sizeOf212 rfl rfl rfl rfl fun w15 B13n O15 z15 =>?_
  replace B13:=B13n
  have b16:=aS.toBelow O15 b14 b14.size leB13
  have B1:=B1.only O15 nB1_B13
  have B2:=B2.only O15 nB2_B13
  have hMV:=hMV.only O15 nhMV_B13
  have B11:=B11.only O15 nB11_B13
  refine nl (jI ?_)
  refine jI (Ae (eO (aN (.string s) rfl (cE en130 (a1 rfl) (Mx s _) ?_))))
  rintro v17 w17 k17 ⟨bl,rfl,hlbl,hBl⟩
  have b18:=aDu b16 k17
  have B1:=B1.below k17
  have B2:=B2.below k17
  have hMV:=hMV.below k17
  have B11:=B11.below k17
  have B13:=B13.below k17
  refine nl ?_
  have:=B1.lt
  have:=B2.lt
  have:=B13.lt
  have:=B11.lt
  have:=hMV.lt
  have hbb:=b18.size
  have hMs:=hMV
  have hs:s.size<=10000:=by have:=aBe c4;omega
  have hlen:=(eX ⟨#[10]⟩ s (aDl 1)).2
  have hSR0:SR w9.heap.size w2.heap.size w17.heap.size CK 0 w17:=⟨B11,wQ _ _,by omega⟩
  have hpanF:∀ c (g:Nat->Value) B,g 2=pt w.heap.size 0->g 3=pt w1.heap.size 0->gO c->Bk w.heap.size Ij 97 B->Bk w1.heap.size [aV,aV] 101 B->Below w.heap.size w B->B.heap[w17.heap.size]? = some (.deferred (some []))->bodyPostM (FR none) 0 prog Tryz.f48 (fun e w'=>∃ v,e=.returned v/\Below w.heap.size w w'/\NQ K w v w') (.panic c) (fr 60 [rS w17.heap.size,Sp 129 w.heap.size w1.heap.size] g) B:=by
   rintro c g B h2 h3 ⟨e,ln,rfl⟩ hY hX hbB hD
   refine UX (S:=fun w'=>KM (fun i=>i=w17.heap.size\/i=w.heap.size\/i=w1.heap.size) B w'/\Bk w.heap.size Ij 97 w'/\Bk w1.heap.size [zi e,zi ln] 101 w') Wn hD ?_ ?_
   ·intro w1 O1
    refine aC4 (MT _ _ e ln w1 (hY.only O1 (by omega)) (hX.only O1 (by omega)) (by omega)) ?_
    rintro e9 u w2 ⟨rfl,rfl,h4,h5,h6⟩
    exact ⟨rfl,rfl,aD4 (aD0 O1 (.inl rfl)) (aD9 h4 (fun _ _ h=>.inr h)),h5,h6⟩
   ·rintro w2 ⟨h4,h5,h6⟩
    exact ⟨_,BG rfl h2 (vZ (cs:=Ij) isAgg97 sizeOf97 h5) h3 (vZ (cs:=[zi e,zi ln]) isAgg101 sizeOf101 h6),_,rfl,aDs h4 hbB hbB.size (fun i hi=>by omega),CK,e,ln,rfl,(wQ 0 w2).at,(pQ K).out (by omega) |>.1,(pQ K).out (by omega) |>.2,fun i hi=>(zY i hi).elim⟩
  refine wZ ?_
  refine tA (f0:=48) func48 rfl en175 (IL bl s _ hBl (hE.below b18).max hs) (fun _=>rfl) (fun i=>i=w9.heap.size\/i=w2.heap.size) (fun i hi h=>by omega) trivial (fun S R k W=>∃ (x:bS) (ln:Int),SR w9.heap.size w2.heap.size w17.heap.size x ln W/\MV 5 w2.heap.size k BX W/\Bk w11.heap.size [pt w9.heap.size 0] 212 W/\Bk w.heap.size Ij 97 W/\Bk w1.heap.size [aV,aV] 101 W/\lD K k x.c/\(k=0->x.c.after.length=0)/\(∀ i,bX x i->R i/\S<=i)/\Below w.heap.size w W) (fun _ _ _=>False) (fun c B=>gO c/\Bk w.heap.size Ij 97 B/\Bk w1.heap.size [aV,aV] 101 B/\Below w.heap.size w B) ?_ ?_ ?_ ?_ ?_ ?_ ?_
  ·rintro S R k A B ⟨x,ln,h1,h2,h3,h4,h5,h6,h7,h8,h9⟩ hk;exact ⟨x,ln,h1.km hk (fun h=>by omega) (fun i hi h=>by have:=(h8 i hi).2;omega),h2.km hk (fun h=>by omega),h3.km hk (fun h=>by omega),h4.km hk (fun h=>by omega),h5.km hk (fun h=>by omega),h6,h7,h8,hk.toBelow h9 h9.size (fun i hi=>by omega)⟩
  ·intro _ _ _ _ h _;exact h.elim
  ·intro A hA;exact ⟨CK,0,hSR0.below hA,hMs.below hA,B13.below hA,B1.below hA,B2.below hA,pQ K,fun _=>rfl,fun i hi=>(zY i hi).elim,aDu b18 hA⟩
  ·
   intro S R k A hk hJ hlA hS hSA hRb
   obtain ⟨x,ln,hSR,hMV,hB4,hB2,hB3,hI,hk0,hxo,hbl⟩:=hJ
   have hkL:k<(aI ⟨#[10]⟩ s).length:=by rw [oJ] at hk;exact hk
   have hE1:(eS (aI ⟨#[10]⟩ s))[k].1=(k:Int)+1:=by rw [zL hkL]
   have hEs:(eS (aI ⟨#[10]⟩ s))[k].2.size<=10000:=by rw [zL hkL];exact aC7 (lT (aBz hkL)) hs
   have hk1:k<=10001:=by omega
   have hxR:∀ i,bX x i->w17.heap.size<=i:=fun i hi=>(hSR.rows.ge i hi).1
   refine rg (aW (zi ((eS (aI ⟨#[10]⟩ s))[k].1)) rfl (nx (eO (aW (.string ((eS (aI ⟨#[10]⟩ s))[k].2)) rfl (nl ?_)))))
   refine ⟨aD8 _ _,?_⟩
   intro w19 O19
   have hSR:=hSR.km (aD0 (M:=fun i=>i=w17.heap.size+1) O19 rfl) (fun h=>by omega) (fun i hi h=>by have:=(hxo i hi).2;omega)
   have hMV:=hMV.only O19 (by omega)
   have hB4:=hB4.only O19 (by omega)
   have hB2:=hB2.only O19 (by omega)
   have hB3:=hB3.only O19 (by omega)
   have hbl:=aS.toBelow O19 hbl hbl.size (by omega)
   have hAB:=O19.size
   have hR:=hSR.blk
   refine aO (rg (sq (BI rfl (hB4.cell 0 rfl)) (aN (zi ((eS (aI ⟨#[10]⟩ s))[k].1)) rfl (sq (dF rfl) (sq (KI rfl) (eP hR sizeOf3 rfl rfl rfl rfl fun w20 hRn O20 z20 =>?_))))))
   replace hR:=hRn
   have hMV:=hMV.only O20 (by omega)
   have hB4:=hB4.only O20 (by omega)
   have hB2:=hB2.only O20 (by omega)
   have hB3:=hB3.only O20 (by omega)
   have m21:KM (fun i=>(fun i=>i=w9.heap.size\/i=w2.heap.size) i\/R i) w19 w20:=(aD8 _ _).only O20 (.inl (.inl (.inl rfl)))
   have m22:KM (·=w9.heap.size) w19 w20:=(aD8 _ _).only O20 (.inl rfl)
   refine nx ?_
   have hSR2:SR w9.heap.size w2.heap.size w17.heap.size x (eS (aI ⟨#[10]⟩ s))[k].1 w20:=⟨hR,hSR.rows.km m22 (fun i hi (e:i=_)=>by have:=(hSR.rows.ge i hi).1;omega),hSR.rb⟩
   refine aF (rg (aN (zi ((eS (aI ⟨#[10]⟩ s))[k].1)) rfl (sq (eZ rfl rfl) (nx ?_))))
   refine cd rfl (fun c23=>?_) (fun c23=>?_)
   ·
    refine rg (sq (BI rfl (hB4.cell 0 rfl)) (aN (.string ((eS (aI ⟨#[10]⟩ s))[k].2)) rfl ?_))
    have hA0:A.heap.size<=w20.heap.size:=aC7 O19.size m21.size
    have hblw:Below w.heap.size w w20:=(aDs m21 hbl hbl.size (fun i hi=>hi.elim (fun h=>by omega) (fun h=>by have:=(hRb i h).1;omega)))
    have hin1:k=0:=by have:=aBp c23;rw [hE1] at this;omega
    have hmx1:∀ W,KM (fun i=>w.heap.size<=i) w20 W->lY W:=fun W hW=>(hE.below (hW.toBelow hblw hblw.size (fun _ h=>h))).max
    refine vY (fst:=[]) (caps:=[]) YL rfl (dZ (a2 rfl rfl)) (OL w9.heap.size w2.heap.size w17.heap.size w.heap.size x (eS (aI ⟨#[10]⟩ s))[k].1 (eS (aI ⟨#[10]⟩ s))[k].2 _ (hE.below hblw).max hmx1 hSR2 hEs hI.user (by have:=hk0 hin1;omega) (by omega) (by omega) (by omega)) (fun cP24 w24 k24 hP24=>And.intro rfl (And.intro (And.intro hP24 (And.intro (hB2.km k24 (fun e=>e.elim (fun e=>by omega) (fun e=>by have:=hxR _ (.inl e);have hgl:=(hSR.rows.ge _ (.inl e)).2;omega))) (And.intro (hB3.km k24 (fun e=>e.elim (fun e=>by omega) (fun e=>by have:=hxR _ (.inl e);have hgl:=(hSR.rows.ge _ (.inl e)).2;omega))) (aDs k24 hblw hblw.size (fun i hi=>hi.elim (fun e=>by omega) (fun e=>by have:=hxR _ (.inl e);omega)))))) (KM.next m21 k24 (fun i hi=>.inl (hi.elim (fun e=>.inl (.inl e)) (fun e=>.inr (hxo _ (.inl e)).1)))))) ?_
    rintro v24 w24 k24 ⟨y,hst,hSRy,hoy⟩
    have hMV:=hMV.km k24 (fun e=>e.elim (fun e=>by omega) (fun e=>by have:=hxR _ (.inl e);have hgl:=(hSR.rows.ge _ (.inl e)).2;omega))
    have hB4:=hB4.km k24 (fun e=>e.elim (fun e=>by omega) (fun e=>by have:=hxR _ (.inl e);have hgl:=(hSR.rows.ge _ (.inl e)).2;omega))
    have hB2:=hB2.km k24 (fun e=>e.elim (fun e=>by omega) (fun e=>by have:=hxR _ (.inl e);have hgl:=(hSR.rows.ge _ (.inl e)).2;omega))
    have hB3:=hB3.km k24 (fun e=>e.elim (fun e=>by omega) (fun e=>by have:=hxR _ (.inl e);have hgl:=(hSR.rows.ge _ (.inl e)).2;omega))
    have m25:KM (fun i=>(fun i=>i=w9.heap.size\/i=w2.heap.size) i\/R i) w19 w24:=m21.next k24 (fun i hi=>.inl (hi.elim (fun e=>.inl (.inl e)) (fun e=>.inr (hxo _ (.inl e)).1)))
    refine nx (cI ?_)
    repeat refine bN ?_
    refine dP ?_
    have hSf:SR w9.heap.size w2.heap.size w17.heap.size y (eS (aI ⟨#[10]⟩ s))[k].1 w24:=hSRy
    have hof:∀ i,bX y i->R i\/A.heap.size<=i:=fun i hi=>by rcases hi with h | h | h | h;exact (hoy i h).elim (fun h=>.inl (hxo i (.inl h)).1) (fun h=>.inr (by omega));exact .inl (hxo i (.inr (.inl (hst.vm ▸ h)))).1;exact .inl (hxo i (.inr (.inr (.inl (hst.vd ▸ h))))).1;exact .inl (hxo i (.inr (.inr (.inr (hst.vu ▸ h))))).1
    exact ⟨⟨fun i=>bX y i,⟨y,(eS (aI ⟨#[10]⟩ s))[k].1,hSf,(hMV.mono (aDq _)),hB4,hB2,hB3,((hI.head hst (by have:=hk0 hin1;omega)).up (aDq _)),fun h=>absurd h (Nat.succ_ne_zero _),fun i hi=>⟨hi,(hof i hi).elim (fun h=>(hRb i h).1) (fun h=>aC7 hSA h)⟩,(aDs m25 hbl hbl.size (fun i hi=>hi.elim (fun h=>by omega) (fun h=>by have:=(hRb i h).1;omega)))⟩,fun i hi=>(hof i hi).imp id fun h=>⟨h,(hSf.rows.ge i hi).2⟩⟩,m25⟩
   ·
    refine aG (aF (rg (aN (.string ((eS (aI ⟨#[10]⟩ s))[k].2)) rfl (cE en132 (a1 rfl) (Dc (Yv ((eS (aI ⟨#[10]⟩ s))[k].2) _ _ (aEb rfl))) ?_))))
    rintro _ w26 k26 rfl
    have hR:=hR.below k26
    have hMV:=hMV.below k26
    have hB4:=hB4.below k26
    have hB2:=hB2.below k26
    have hB3:=hB3.below k26
    have m27:KM (fun i=>(fun i=>i=w9.heap.size\/i=w2.heap.size) i\/R i) w19 w26:=m21.below k26
    have m28:KM (fun _=>False) w20 w26:=aDr k26
    refine sq (cJ rfl) (nx ?_)
    refine cd rfl (fun c29=>?_) (fun c29=>?_)
    ·
     refine cI ?_
     repeat refine bN ?_
     refine dP ?_
     have hSf:SR w9.heap.size w2.heap.size w17.heap.size x (eS (aI ⟨#[10]⟩ s))[k].1 w26:=⟨hR,hSR2.rows.km m28 (fun _ _ h=>h),hSR2.rb⟩
     have hof:∀ i,bX x i->R i\/A.heap.size<=i:=fun i hi=>.inl (hxo i hi).1
     exact ⟨⟨fun i=>bX x i,⟨x,(eS (aI ⟨#[10]⟩ s))[k].1,hSf,(hMV.mono (aDq _)),hB4,hB2,hB3,(hI.up (aDq _)),fun h=>absurd h (Nat.succ_ne_zero _),fun i hi=>⟨hi,(hof i hi).elim (fun h=>(hRb i h).1) (fun h=>aC7 hSA h)⟩,(aDs m27 hbl hbl.size (fun i hi=>hi.elim (fun h=>by omega) (fun h=>by have:=(hRb i h).1;omega)))⟩,fun i hi=>(hof i hi).imp id fun h=>⟨h,(hSf.rows.ge i hi).2⟩⟩,m27⟩
    ·
     refine aG (rg (aN (.string ((eS (aI ⟨#[10]⟩ s))[k].2)) rfl ?_))
     have hblw3:Below w.heap.size w w26:=(aDs m27 hbl hbl.size (fun i hi=>hi.elim (fun h=>by omega) (fun h=>by have:=(hRb i h).1;omega)))
     refine cE ZS (a1 rfl) (Vt K ((eS (aI ⟨#[10]⟩ s))[k].2) _ hEs (hE.below hblw3)) ?_
     rintro v30 w30 k30 ⟨d,en,rfl,hpd⟩
     have hR:=hR.below k30
     have hMV:=hMV.below k30
     have hB4:=hB4.below k30
     have hB2:=hB2.below k30
     have hB3:=hB3.below k30
     have m31:KM (fun i=>(fun i=>i=w9.heap.size\/i=w2.heap.size) i\/R i) w19 w30:=m27.below k30
     have m32:KM (fun _=>False) w20 w30:=m28.below k30
     refine aN (.tuple #[.agg (d.cells.toList).toArray,zi en]) rfl (sq (dT rfl rfl) (sq (dT rfl rfl) (eA (cs:=[.int .u8 (0),.string (⟨#[]⟩),.string (⟨#[]⟩),aV,.bool false]) zeroValue220 rfl fun w33 B33 k33 z33 =>?_)))
     have nhR_B33:=aC8 hR.lt
     have nhMV_B33:=aC8 hMV.lt
     have nhB4_B33:=aC8 hB4.lt
     have nhB2_B33:=aC8 hB2.lt
     have nhB3_B33:=aC8 hB3.lt
     have lkB33_w19:=m31.size
     have lkB33_w20:=m32.size
     have hR:=hR.below k33
     have hMV:=hMV.below k33
     have hB4:=hB4.below k33
     have hB2:=hB2.below k33
     have hB3:=hB3.below k33
     have m34:KM (fun i=>(fun i=>i=w9.heap.size\/i=w2.heap.size) i\/R i) w19 w33:=m31.below k33
     have m35:KM (fun _=>False) w20 w33:=m32.below k33
     refine bR (vs:=d.cells.toList) B33 sizeOf220 rfl rfl rfl rfl fun w36 B33n O36 z36 =>?_
     replace B33:=B33n
     have hR:=hR.only O36 nhR_B33
     have hMV:=hMV.only O36 nhMV_B33
     have hB4:=hB4.only O36 nhB4_B33
     have hB2:=hB2.only O36 nhB2_B33
     have hB3:=hB3.only O36 nhB3_B33
     have m37:KM (fun i=>(fun i=>i=w9.heap.size\/i=w2.heap.size) i\/R i) w19 w36:=m34.only O36 (.inr lkB33_w19)
     have m38:KM (fun _=>False) w20 w36:=m35.only O36 (.inr lkB33_w20)
     refine aW (zi en) rfl (nx (aF (rg (aN (zi en) rfl (sq (gC rfl rfl) (nx ?_))))))
     refine cd rfl (fun c39=>?_) (fun c39=>?_)
     ·
      refine eO (sq (BI rfl (hB4.cell 0 rfl)) (aN (zi en) rfl ?_))
      have hblw:Below w.heap.size w w36:=(aDs m37 hbl hbl.size (fun i hi=>hi.elim (fun h=>by omega) (fun h=>by have:=(hRb i h).1;omega)))
      refine vY (fst:=[]) (caps:=[]) VW rfl (dZ (a2 rfl rfl)) (FO w9.heap.size w2.heap.size x (eS (aI ⟨#[10]⟩ s))[k].1 en _ hR) (fun cP40 w40 k40 hP40=>And.intro rfl (And.intro (And.intro ⟨_,_,hP40⟩ (And.intro (hB2.km k40 (fun h=>h)) (And.intro (hB3.km k40 (fun h=>h)) (aDs k40 hblw hblw.size (fun _ h=>h.elim))))) (KM.next m37 k40 (fun _ h=>h.elim)))) ?_
      rintro v40 w40 k40 hF
      have m41:KM (fun i=>(fun i=>i=w9.heap.size\/i=w2.heap.size) i\/R i) w19 w40:=m37.next k40 (fun i h=>h.elim)
      have m42:KM (fun _=>False) w20 w40:=m38.next k40 (fun i h=>h.elim)
      exact nl hF.elim
     ·
      refine aG (eO (sq (BI rfl (hB4.cell 0 rfl)) (sq (uI rfl B33.range rfl) ?_)))
      have hA0:A.heap.size<=w36.heap.size:=aC7 O19.size m37.size
      have hblw:Below w.heap.size w w36:=(aDs m37 hbl hbl.size (fun i hi=>hi.elim (fun h=>by omega) (fun h=>by have:=(hRb i h).1;omega)))
      have hSR3:SR w9.heap.size w2.heap.size w17.heap.size x (eS (aI ⟨#[10]⟩ s))[k].1 w36:=⟨hR,hSR2.rows.km m38 (fun _ _ h=>h),hSR2.rb⟩
      have hen:en=0:=by have h0:=c39;simpa using h0
      have hdf:fD K d:=by subst hen;exact GZ K _ d (by simpa using hpd)
      refine vY (fst:=[]) (caps:=[]) ZI rfl (dZ (a2 rfl rfl)) (Tt w9.heap.size w2.heap.size w17.heap.size k x (eS (aI ⟨#[10]⟩ s))[k].1 d _ hSR3 hMV hdf.kind (by omega) (by have:=hI.makeN;omega) (by have:=hI.dropN;omega) (by have:=hI.useN;omega) (by omega) (by omega) (by omega)) (fun cP43 w43 k43 hP43=>And.intro rfl (And.intro (And.intro hP43 (And.intro (hB2.km k43 (fun e=>e.elim (fun e=>by omega) (fun e=>e.elim (fun e=>by omega) (fun e=>by have:=hxR _ e;have hgl:=(hSR.rows.ge _ e).2;omega)))) (And.intro (hB3.km k43 (fun e=>e.elim (fun e=>by omega) (fun e=>e.elim (fun e=>by omega) (fun e=>by have:=hxR _ e;have hgl:=(hSR.rows.ge _ e).2;omega)))) (aDs k43 hblw hblw.size (fun i hi=>hi.elim (fun e=>by omega) (fun e=>e.elim (fun e=>by omega) (fun e=>by have:=hxR _ e;omega))))))) (KM.next m37 k43 (fun i hi=>.inl (hi.elim (fun e=>.inl (.inl e)) (fun e=>e.elim (fun e=>.inl (.inr e)) (fun e=>.inr (hxo _ e).1))))))) ?_
      rintro v43 w43 k43 ⟨y,hinv,hSRy,hMVy,hoy⟩
      have hB4:=hB4.km k43 (fun e=>e.elim (fun e=>by omega) (fun e=>e.elim (fun e=>by omega) (fun e=>by have:=hxR _ e;have hgl:=(hSR.rows.ge _ e).2;omega)))
      have hB2:=hB2.km k43 (fun e=>e.elim (fun e=>by omega) (fun e=>e.elim (fun e=>by omega) (fun e=>by have:=hxR _ e;have hgl:=(hSR.rows.ge _ e).2;omega)))
      have hB3:=hB3.km k43 (fun e=>e.elim (fun e=>by omega) (fun e=>e.elim (fun e=>by omega) (fun e=>by have:=hxR _ e;have hgl:=(hSR.rows.ge _ e).2;omega)))
      have B33:=B33.km k43 (fun e=>e.elim (fun e=>by omega) (fun e=>e.elim (fun e=>by omega) (fun e=>by have:=hxR _ e;have hgl:=(hSR.rows.ge _ e).2;omega)))
      have m44:KM (fun i=>(fun i=>i=w9.heap.size\/i=w2.heap.size) i\/R i) w19 w43:=m37.next k43 (fun i hi=>.inl (hi.elim (fun e=>.inl (.inl e)) (fun e=>e.elim (fun e=>.inl (.inr e)) (fun e=>.inr (hxo _ e).1))))
      refine nl (pI ?_)
      have hSf:SR w9.heap.size w2.heap.size w17.heap.size y (eS (aI ⟨#[10]⟩ s))[k].1 w43:=hSRy
      have hof:∀ i,bX y i->R i\/A.heap.size<=i:=fun i hi=>(hoy i hi).elim (fun h=>.inl (hxo i h).1) (fun h=>.inr (by omega))
      exact ⟨⟨fun i=>bX y i,⟨y,(eS (aI ⟨#[10]⟩ s))[k].1,hSf,hMVy,hB4,hB2,hB3,(hinv K k hI hdf),fun h=>absurd h (Nat.succ_ne_zero _),fun i hi=>⟨hi,(hof i hi).elim (fun h=>(hRb i h).1) (fun h=>aC7 hSA h)⟩,(aDs m44 hbl hbl.size (fun i hi=>hi.elim (fun h=>by omega) (fun h=>by have:=(hRb i h).1;omega)))⟩,fun i hi=>(hof i hi).imp id fun h=>⟨h,(hSf.rows.ge i hi).2⟩⟩,m44⟩
  ·intro c B ⟨h1,h2,h3,h4⟩ hD;exact hpanF c _ B rfl rfl h1 h2 h3 h4 hD
  ·
   intro S R w45 hJ hS hSB hD
   obtain ⟨x,ln,hSR,hMV,hB4,hB2,hB3,hI,hk0,hxo,hbl⟩:=hJ
   have hR:=hSR.blk
   rw [oJ] at hI
   have hfin:=hI.out (by omega)
   have hxl:∀ i,bX x i->i<w45.heap.size:=fun i hi=>(hSR.rows.ge i hi).2
   have hxR:∀ i,bX x i->w17.heap.size<=i:=fun i hi=>(hSR.rows.ge i hi).1
   refine Ae ?_
   refine sDXG (fun c W=>gO c/\Below w45.heap.size w45 W) (lG (V:=_::_::_::_::_::(vE (zi (cA 150 (bL K x.c))))::_::(fun _ _=>True)::[]) rfl ⟨aA,aA,aA,aA,aA,aA,aA,VV,trivial⟩) [] [2,3,4] (by kernel_rfl) rfl rfl trivial (fun c g W ho ⟨e,hb⟩=>hpanF c g W ((ho 2 rfl).trans rfl) ((ho 3 rfl).trans rfl) e (hB2.below hb) (hB3.below hb) (aDu hbl hb) ((hb.block _ (Array.getElem?_eq_some_iff.1 hD).1).trans hD)) (fun Sd=>⟨
    iG 4 Sd rfl fun hT q=>BI q ((hB4.below hT).cell 0 rfl),
    iG 4 Sd rfl fun hT q=>BI q ((hB4.below hT).cell 0 rfl),
    aP [1] Sd rfl fun h=>dF h.1,
    aP [2] Sd rfl fun h=>fU h.1,
    fY [3] Sd rfl fun hT h=>IK h.1 ((hR.below hT).part (o:=0) (sub:=[.string x.c.user,zi x.c.nodes,zi x.c.wall,zi x.c.qos,.slice x.ab x.c.after.length x.ac,zi x.c.cap,zi x.c.inn,zi x.c.out,.string x.c.pool,.slice x.mb x.c.make.length x.mc,.slice x.db x.c.drop.length x.dc,.slice x.ub x.c.use.length x.uc]) rfl) rfl,
    oW [(4,51)] [] Sd rfl fun _ _ hT h _=>gV (a1 h.1) PP (wE K x _ (hE.below (aDu hbl hT)) (mV.at (mV.below hSR.rows hT)) hfin.1),
    aP [5] Sd rfl fun h=>eZ h.1 rfl,
    ow [(0,47),(6,53)] [] Sd rfl rfl rfl (by rintro g1 w1 hT ⟨h0,h6,-⟩ -;exact (mZ (fst:=[]) (caps:=[]) rfl (dZ (a2 h0 h6)) Cx (oK w9.heap.size w2.heap.size x ln _ w1 (hR.below hT)) (fun v W hk _=>⟨aDs hk (aDt _ _) (aDl _) (fun _ h=>h.elim),trivial⟩) (fun c W hk hp=>⟨⟨_,_,hp.2⟩,aDu hT (aDs hk (aDt _ _) (aDl _) (fun _ h=>h.elim))⟩))),
    trivial⟩) ?_
   rintro g46 w46 k46 - ⟨o2,o3,o4,-⟩ -
   have s2:g46 2=pt w.heap.size (0):=o2.trans rfl
   have s3:g46 3=pt w1.heap.size (0):=o3.trans rfl
   have s4:g46 4=pt w11.heap.size (0):=o4.trans rfl
   have b47:=aDu hbl k46
   have hR:=hR.below k46
   have hB4:=hB4.below k46
   have hB2:=hB2.below k46
   have hB3:=hB3.below k46
   have hD48:=(k46.block _ (Array.getElem?_eq_some_iff.1 hD).1).trans hD
   have m49:KM (fun i=>i=w.heap.size\/i=w1.heap.size) w45 w46:=aDr k46
   refine rg (sq (BI s4 (hB4.cell 0 rfl)) (sq (dF rfl) (sq (fU rfl) (sq (IK rfl (hR.part (o:=0) (sub:=[.string x.c.user,zi x.c.nodes,zi x.c.wall,zi x.c.qos,.slice x.ab x.c.after.length x.ac,zi x.c.cap,zi x.c.inn,zi x.c.out,.string x.c.pool,.slice x.mb x.c.make.length x.mc,.slice x.db x.c.drop.length x.dc,.slice x.ub x.c.use.length x.uc]) rfl) rfl) (sq (ZN ) (bR (vs:=[.string x.c.user,zi x.c.nodes,zi x.c.wall,zi x.c.qos,.slice x.ab x.c.after.length x.ac,zi x.c.cap,zi x.c.inn,zi x.c.out,.string x.c.pool,.slice x.mb x.c.make.length x.mc,.slice x.db x.c.drop.length x.dc,.slice x.ub x.c.use.length x.uc]) hB2 sizeOf97 s2 rfl rfl rfl fun w50 hB2n O50 z50 =>?_))))))
   replace hB2:=hB2n
   have b51:=aS.toBelow O50 b47 b47.size (by omega)
   have hB3:=hB3.only O50 (by omega)
   have hD52:=(O50.block _ (Array.getElem?_eq_some_iff.1 hD48).1 (fun e=>absurd (aCp e) (by omega))).trans hD48
   have m53:KM (fun i=>i=w.heap.size\/i=w1.heap.size) w45 w50:=m49.only O50 (.inl (.inl rfl))
   refine bR (vs:=[aV,aV]) hB3 sizeOf101 s3 rfl rfl rfl fun w54 hB3n O54 z54 =>?_
   replace hB3:=hB3n
   have b55:=aS.toBelow O54 b51 b51.size (by omega)
   have hB2:=hB2.only O54 (by omega)
   have hD56:=(O54.block _ (Array.getElem?_eq_some_iff.1 hD52).1 (fun e=>absurd (aCp e) (by omega))).trans hD52
   have m57:KM (fun i=>i=w.heap.size\/i=w1.heap.size) w45 w54:=m53.only O54 (.inl (.inr rfl))
   refine nx (aE ?_)
   refine Xe (S:=fun w'=>KM (fun i=>i=w17.heap.size\/i=w.heap.size\/i=w1.heap.size) w54 w'/\Bk w.heap.size (bS.cells x) 97 w'/\Bk w1.heap.size [aV,aV] 101 w') Wn hD56 ?_ ?_
   ·intro w9 O9
    refine aC4 (My _ _ _ _ w9 (aEa hB2 O9 (by omega)) (aEa hB3 O9 (by omega)) (by omega)) ?_
    rintro e9 u w8 ⟨rfl,rfl,h4,h5,h6⟩
    exact ⟨rfl,rfl,aD4 (aD0 O9 (.inl rfl)) (aD9 h4 (fun _ _ h=>.inr h)),h5,h6⟩
   ·rintro w8 ⟨h4,h5,h6⟩
    have hq:=(hSR.rows.km m57 (fun i hi h=>by have:=hxR i hi;omega)).km h4 (fun i hi h=>by have:=hxR i hi;have:=(hxo i hi).2;omega)
    exact ⟨_,BG rfl s2 (vZ (cs:=bS.cells x) isAgg97 sizeOf97 h5) s3 (vZ (cs:=[aV,aV]) isAgg101 sizeOf101 h6),_,rfl,aDs h4 b55 b55.size (fun i hi=>by omega),x,0,0,rfl,hq.at,hfin.1,hfin.2,fun i hi=>by have:=hxR i hi;omega⟩
  ·intro _ _ _ h;exact h.elim
end
theorem bS.At.km {x:bS} {M:Nat->Prop} (h:x.At A) (k:KM M A B) (hM:∀ i,bX x i->¬ M i):x.At B:=
 ⟨h.after.km k (fun i hi=>hM i (.inl hi)),h.make.km k (fun i hi=>hM i (.inr (.inl hi))),h.drop.km k (fun i hi=>hM i (.inr (.inr (.inl hi)))),h.use.km k (fun i hi=>hM i (.inr (.inr (.inr hi))))⟩
theorem bS.At.only {x:bS} (h:x.At A) (k:aS b A B) (hn:bX x b->False):x.At B:=h.km (aD0 (M:=fun i=>i=b) k rfl) (fun i hi e=>hn (e ▸ hi))
theorem bS.At.lt {x:bS} (h:x.At w):∀ i,bX x i->i<w.heap.size:=fun i hi=>by
 rcases hi with hi | hi | hi | hi
 ·exact h.after.lt i hi
 ·exact h.make.lt i hi
 ·exact h.drop.lt i hi
 ·exact h.use.lt i hi
theorem LZ (rb) (s:Option ByteArray) (w) (hB:dJ rb s w) (ho:bM s):jP (·=rb) 49 [pt rb 0] w fun v w'=>v=.int .u64 (fG s)/\dJ rb (aB s) w':=vV rb s w hB ho
theorem NO (n:Int):IntKind.wrap .u8 n=(((IntKind.wrap .u8 n).toNat:Nat):Int)/\(IntKind.wrap .u8 n).toNat<=255:=by rw [IntKind.wrap_u8];omega
theorem Jk {g:Nat->Value} {ty:TypeId} {a1:Int} (h0:ev n g x0=zi a1):aL n g ⟨dd,.build 99 #[(0,x0)],ty,pos,aft,gd⟩ w (.agg [zi a1,.string (⟨#[]⟩),aV,aV,aV,cP,aV,aV,aV,.string (⟨#[]⟩),cP,cP,cP,.int .u8 (0),.bool false,.bool false,aV,aV,aV].toArray):=
 iA (ps:=[(0,x0)]) (by simp only [aC3,aDb,h0];kernel_rfl)
def Gd (s:Option ByteArray):Option ByteArray:=(aB (aB (aB (aQ (aQ (aB (aH 20000 (aB s))))))))
theorem iV: Ck Gd:=(((((((cH.comp (oO 20000)).comp cH).comp lK).comp lK).comp cH).comp cH).comp cH)
theorem Sw (K:Nat->ByteArray) (rb bx) (s:Option ByteArray) (w wp) (hE:rI K wp) (hbp:Below wp.heap.size wp w) (hwp:wp.heap.size<=rb) (hX:Bk bx [pt rb 0] 57 w) (hxr:bx≠rb) (hB:dJ rb s w) (ho:bM s):gB (·=rb) 47 [pt bx 0] w (fun v w'=>∃ x:dH,v=.agg (dH.cells x).toArray/\(x.Fit K/\rQ K x.slip.c/\x.slip.At w')/\(∀ i,bX x.slip i->w.heap.size<=i/\i<w'.heap.size)/\(Gd s).isSome=true/\dJ rb (Gd s) w') (fun c _=>c=gK/\True):=by
 refine aJ (n:=42) func47 rfl ntmps47 (aA1 rfl) (rg (eA (cs:=ZA) zeroValue99 rfl fun w1 B1 k1 z1 =>?_))
 have hnrB1:w.heap.size≠rb:=by have:=aEf hB;have:=(aD8 (fun _=>False) w).size;omega
 have nhB_B1:=aC8 hB.lt
 have nhX_B1:=aC8 hX.lt
 have lkB1_w:=aDl w.heap.size
 have hB:=hB.below k1
 have hX:=hX.below k1
 have m2:KM (·=rb) w w1:=aDr k1
 refine nx (rg (sq (dV rfl hX.range rfl) (vY (fst:=[]) (caps:=[]) kB rfl (dZ (a1 rfl)) (eC rb s _ hB ho) (fun cP3 w3 k3 hP3=>And.intro rfl (And.intro ((m2).next k3 (fun i (hi:i=rb)=>.inl hi)) (Or.inr (Exists.intro cP3 (And.intro rfl (And.intro hP3.1 trivial)))))) ?_)))
 rintro v3 w3 k3 ⟨rfl,hsm1,hB⟩
 have hX:=hX.km k3 (fun e=>hxr e)
 have B1:=B1.km k3 (fun e=>hnrB1 e)
 have m4:=m2.next k3 (fun i (hi:i=rb)=>.inl hi)
 refine sq (Jk rfl) (eA (cs:=ZA) zeroValue99 rfl fun w5 B5 k5 z5 =>?_)
 have hnrB5:w3.heap.size≠rb:=by have:=aEf hB;have:=m4.size;omega
 have nhB_B5:=aC8 hB.lt
 have nhX_B5:=aC8 hX.lt
 have nB1_B5:=aC8 B1.lt
 have lkB5_w:=m4.size
 have hB:=hB.below k5
 have hX:=hX.below k5
 have B1:=B1.below k5
 have m6:=m4.below k5
 refine bR (vs:=[zi (dD s),.string (⟨#[]⟩),aV,aV,aV,cP,aV,aV,aV,.string (⟨#[]⟩),cP,cP,cP,.int .u8 (0),.bool false,.bool false,aV,aV,aV]) B5 sizeOf99 rfl rfl rfl rfl fun w7 B5n O7 z7 =>?_
 replace B5:=B5n
 have hB:=hB.only O7 nhB_B5
 have hX:=hX.only O7 nhX_B5
 have B1:=B1.only O7 nB1_B5
 have m8:=m6.only O7 (.inr lkB5_w)
 refine nx (rg (sq (dV rfl hX.range rfl) (vY (fst:=[]) (caps:=[]) Jl rfl (dZ (a1 rfl)) (rE rb (aB s) _ hB ((ho).rd)) (fun cP9 w9 k9 hP9=>And.intro rfl (And.intro ((m8).next k9 (fun i (hi:i=rb)=>.inl hi)) (Or.inr (Exists.intro cP9 (And.intro rfl (And.intro hP9.1 trivial)))))) ?_)))
 rintro v9 w9 k9 ⟨rfl,hsm2,hB⟩
 have hX:=hX.km k9 (fun e=>hxr e)
 have B1:=B1.km k9 (fun e=>hnrB1 e)
 have B5:=B5.km k9 (fun e=>hnrB5 e)
 have m10:=m8.next k9 (fun i (hi:i=rb)=>.inl hi)
 have hck:=m10
 have hblp:=aDs m10 hbp hbp.size (fun i hi=>by have:i=rb:=hi;omega)
 have hrbq:=hB.lt
 have hltq_hX:=hX.lt
 have hltq_B1:=B1.lt
 have hltq_B5:=B5.lt
 refine cE en48 (a1 rfl) (Ot K (jG 20000 (aB s)) _ (hE.below hblp)) ?_
 rintro v11 w11 k11 ⟨xs,se,sl,rfl,hxa,hxf,hxw,hxo⟩
 have hB:=hB.below k11
 have hX:=hX.below k11
 have B1:=B1.below k11
 have B5:=B5.below k11
 have m12:=m10.below k11
 refine aN (.tuple #[.agg (bS.cells xs).toArray,.agg [zi se,zi sl].toArray]) rfl (sq (dT rfl rfl) (sq (dT rfl rfl) (eA (cs:=Ij) zeroValue97 rfl fun w13 B13 k13 z13 =>?_)))
 have hxlB13:=hxa.lt
 have hnrB13:w11.heap.size≠rb:=by have:=aEf hB;have:=m12.size;omega
 have nhB_B13:=aC8 hB.lt
 have nhX_B13:=aC8 hX.lt
 have nB1_B13:=aC8 B1.lt
 have nB5_B13:=aC8 B5.lt
 have lkB13_w:=m12.size
 have hB:=hB.below k13
 have hX:=hX.below k13
 have B1:=B1.below k13
 have B5:=B5.below k13
 have hxa:=hxa.below k13
 have m14:=m12.below k13
 refine eA (cs:=[aV,aV]) zeroValue101 rfl fun w15 B15 k15 z15 =>?_
 have hxlB15:=hxa.lt
 have hnrB15:w13.heap.size≠rb:=by have:=aEf hB;have:=m14.size;omega
 have nhB_B15:=aC8 hB.lt
 have nhX_B15:=aC8 hX.lt
 have nB1_B15:=aC8 B1.lt
 have nB5_B15:=aC8 B5.lt
 have nB13_B15:=aC8 B13.lt
 have lkB15_w:=m14.size
 have hB:=hB.below k15
 have hX:=hX.below k15
 have B1:=B1.below k15
 have B5:=B5.below k15
 have hxa:=hxa.below k15
 have B13:=B13.below k15
 have m16:=m14.below k15
 refine bR (vs:=(bS.cells xs)) B13 sizeOf97 rfl rfl rfl rfl fun w17 B13n O17 z17 =>?_
 replace B13:=B13n
 have hB:=hB.only O17 nhB_B13
 have hX:=hX.only O17 nhX_B13
 have B1:=B1.only O17 nB1_B13
 have B5:=B5.only O17 nB5_B13
 have hxa:=hxa.only O17 (fun e=>by have:=hxo _ e;have:=hxlB13 _ e;have:=hxlB15 _ e;omega)
 have B15:=B15.only O17 nB13_B15.symm
 have m18:=m16.only O17 (.inr lkB13_w)
 refine bR (vs:=[zi se,zi sl]) B15 sizeOf101 rfl rfl rfl rfl fun w19 B15n O19 z19 =>?_
 replace B15:=B15n
 have hB:=hB.only O19 nhB_B15
 have hX:=hX.only O19 nhX_B15
 have B1:=B1.only O19 nB1_B15
 have B5:=B5.only O19 nB5_B15
 have hxa:=hxa.only O19 (fun e=>by have:=hxo _ e;have:=hxlB13 _ e;have:=hxlB15 _ e;omega)
 have B13:=B13.only O19 nB13_B15
 have m20:=m18.only O19 (.inr lkB15_w)
 refine nx (rg (sq (dV rfl hX.range rfl) (sq (TF rfl) (sq (ld42 rfl (B15.cell 0 rfl)) (sq (eZ rfl rfl) (vY (fst:=[]) (caps:=[]) Ln rfl (dZ (a2 rfl rfl)) (tD rb _ _) (fun cP21 w21 k21 hP21=>And.intro rfl (And.intro ((m20).next k21 (fun i h=>h.elim)) (Or.inr (Exists.intro cP21 (And.intro rfl (And.intro hP21.2 trivial)))))) ?_))))))
 rintro v21 w21 k21 -
 have hB:=hB.km k21 (fun h=>h)
 have hX:=hX.km k21 (fun h=>h)
 have B1:=B1.km k21 (fun h=>h)
 have B5:=B5.km k21 (fun h=>h)
 have hxa:=hxa.km k21 (fun _ _ h=>h)
 have B13:=B13.km k21 (fun h=>h)
 have B15:=B15.km k21 (fun h=>h)
 have m22:=m20.next k21 (fun i h=>h.elim)
 refine nx ?_
 have hrbw22:=hB.lt
 have htbw22:=B5.lt
 have hzw22:=m22.size
 have hxlt22:=hxa.lt
 have hlb23:=hB.lt
 have hlb24:=hX.lt
 have hlb25:=B1.lt
 have hlb26:=B5.lt
 have hlb27:=B13.lt
 have hlb28:=B15.lt
 refine CP (fun _ _=>False) (eE (V:=_::_::_::(vE (.int .u64 (fG (aH 20000 (aB s)))))::_::_::(fun _ _=>True)::_::(fun _ _=>True)::[]) (M:=fun i=>i=rb\/i=w3.heap.size) (ch:=[3,6,8]) (L:=[(fun W=>dJ rb (aH 20000 (aB s)) W/\Bk w3.heap.size ([zi (dD s),.string (⟨#[]⟩),aV,aV,aV,cP,aV,aV,aV,.string (⟨#[]⟩),cP,cP,cP,.int .u8 (0),.bool false,.bool false,aV,aV,aV]) 99 W),(fun W=>dJ rb (aB (aH 20000 (aB s))) W/\Bk w3.heap.size ([zi (dD s),.string (⟨#[]⟩),aV,aV,aV,cP,aV,aV,aV,.string (⟨#[]⟩),cP,cP,cP,.int .u8 (0),.bool false,.bool false,aV,aV,aV]) 99 W),(fun W=>dJ rb (aB (aH 20000 (aB s))) W/\Bk w3.heap.size ([zi (dD s),.string xs.c.user,zi xs.c.nodes,zi xs.c.wall,zi xs.c.qos,.slice xs.ab xs.c.after.length xs.ac,zi xs.c.cap,zi xs.c.inn,zi xs.c.out,.string xs.c.pool,.slice xs.mb xs.c.make.length xs.mc,.slice xs.db xs.c.drop.length xs.dc,.slice xs.ub xs.c.use.length xs.uc,.int .u8 (0),.bool false,.bool false,aV,aV,aV]) 99 W),(fun W=>dJ rb (aB (aH 20000 (aB s))) W/\Bk w3.heap.size ([zi (dD s),.string xs.c.user,zi xs.c.nodes,zi xs.c.wall,zi xs.c.qos,.slice xs.ab xs.c.after.length xs.ac,zi xs.c.cap,zi xs.c.inn,zi xs.c.out,.string xs.c.pool,.slice xs.mb xs.c.make.length xs.mc,.slice xs.db xs.c.drop.length xs.dc,.slice xs.ub xs.c.use.length xs.uc,.int .u8 (IntKind.wrap .u8 (fG (aH 20000 (aB s)))),.bool false,.bool false,aV,aV,aV]) 99 W)]) rfl ⟨aC,aC,aC,aC,aC,aC,fI,aC,fI,trivial⟩ rfl rfl rfl (by intro P hP a b h k;simp only [aC0,aBy,or_false] at hP;rcases hP with rfl | rfl | rfl | rfl;exact ⟨aD3 h.1 k,h.2.below k⟩;exact ⟨aD3 h.1 k,h.2.below k⟩;exact ⟨aD3 h.1 k,h.2.below k⟩;exact ⟨aD3 h.1 k,h.2.below k⟩)) [] [0,1,2] (by kernel_rfl) rfl rfl (And.intro hB B5) (fun _ _ _ h=>h.elim) (fun Sd=>⟨
  iG 3 Sd rfl fun hT q=>IK q ((B13.km hT (fun e=>e.elim (fun e=>hnrB13 e) nB5_B13.symm)).range) rfl,
  jA 0 Sd rfl fun q=>qR q,
  fY [1] Sd rfl fun hT h=>uG h.1 ((hX.km hT (fun e=>e.elim (fun e=>hxr e) nhX_B5)).cell 0 rfl),
  oc 0 [(2,21)] [] rfl rfl rfl (by rintro g1 w1 hT ⟨h2,-⟩ - ⟨hB0,hT0⟩;exact YH (fst:=[]) (caps:=[]) rfl (dZ (a1 h2)) If (LZ rb (aH 20000 (aB s)) w1 hB0 ((ho).rd).rdT) (fun v W hk ⟨e,h2⟩=>And.intro (aD9 hk (fun _ _ h=>.inl h)) (And.intro e (And.intro h2 (Bk.km hT0 hk (fun e=>hnrB5 e)))))),
  aP [3] Sd rfl fun h=>pO underlying104 underlying5 h.1,
  jA 2 Sd rfl fun q=>Ed q,
  oc 1 [(0,19),(5,24)] [] rfl rfl rfl (by rintro g1 w1 hT ⟨h0,h5,-⟩ - ⟨hB0,hT0⟩;exact RZ (vs:=(bS.cells xs)) hT0 sizeOf97 h5 h0 rfl rfl (fun W hB9 O z=>And.intro (aD0 O (.inr rfl)) (And.intro True.intro (And.intro (aEa hB0 O (fun e=>hnrB5 e.symm)) hB9)))),
  jA 2 Sd rfl fun q=>tC q,
  oc 2 [(4,23),(7,25)] [] rfl rfl rfl (by rintro g1 w1 hT ⟨h4,h7,-⟩ - ⟨hB0,hT0⟩;exact BR hT0 sizeOf5 h7 h4 rfl rfl (fun W hB9 O z=>And.intro (aD0 O (.inr rfl)) (And.intro True.intro (And.intro (aEa hB0 O (fun e=>hnrB5 e.symm)) hB9)))),
  trivial⟩) ?_
 rintro g29 w29 k29 - ⟨o0,o1,o2,-⟩ ⟨hB29,hT29⟩
 have s0:g29 0=pt bx (0):=o0.trans rfl
 have s1:g29 1=pt w.heap.size (0):=o1.trans rfl
 have s2:g29 2=pt w3.heap.size (0):=o2.trans rfl
 have hX:=hX.km k29 (fun e=>e.elim (fun e=>hxr e) nhX_B5)
 have B1:=B1.km k29 (fun e=>e.elim (fun e=>hnrB1 e) nB1_B5)
 have hxa:=hxa.km k29 (fun i hi e=>by have:=hxo i hi;have:=hrbq;omega)
 have B13:=B13.km k29 (fun e=>e.elim (fun e=>hnrB13 e) nB5_B13.symm)
 have B15:=B15.km k29 (fun e=>e.elim (fun e=>hnrB15 e) nB5_B15.symm)
 have m30:=m22.next k29 (fun i hi=>hi.elim (fun h=>.inl h) (fun h=>.inr (by have:=lkB5_w;omega)))
 have hrbw30:=hB29.lt
 have htbw30:=hT29.lt
 have hzw30:=m30.size
 have hxlt30:=hxa.lt
 have hlb31:=hB29.lt
 have hlb32:=hX.lt
 have hlb33:=B1.lt
 have hlb34:=hT29.lt
 have hlb35:=B13.lt
 have hlb36:=B15.lt
 refine CP (fun c W=>c=gK/\KM (fun i=>i=rb\/i=w3.heap.size) w29 W/\True) (eE (V:=_::(vE (.bool (iM (aB (aH 20000 (aB s))))))::_::(vE (.bool (iM (aQ (aB (aH 20000 (aB s)))))))::_::(fun _ _=>True)::_::(fun _ _=>True)::[]) (M:=fun i=>i=rb\/i=w3.heap.size) (ch:=[1,3,5,7]) (L:=[(fun W=>dJ rb (aB (aH 20000 (aB s))) W/\Bk w3.heap.size ([zi (dD s),.string xs.c.user,zi xs.c.nodes,zi xs.c.wall,zi xs.c.qos,.slice xs.ab xs.c.after.length xs.ac,zi xs.c.cap,zi xs.c.inn,zi xs.c.out,.string xs.c.pool,.slice xs.mb xs.c.make.length xs.mc,.slice xs.db xs.c.drop.length xs.dc,.slice xs.ub xs.c.use.length xs.uc,.int .u8 (IntKind.wrap .u8 (fG (aH 20000 (aB s)))),.bool false,.bool false,aV,aV,aV]) 99 W),(fun W=>(aQ (aB (aH 20000 (aB s)))).isSome=true/\dJ rb (aQ (aB (aH 20000 (aB s)))) W/\Bk w3.heap.size ([zi (dD s),.string xs.c.user,zi xs.c.nodes,zi xs.c.wall,zi xs.c.qos,.slice xs.ab xs.c.after.length xs.ac,zi xs.c.cap,zi xs.c.inn,zi xs.c.out,.string xs.c.pool,.slice xs.mb xs.c.make.length xs.mc,.slice xs.db xs.c.drop.length xs.dc,.slice xs.ub xs.c.use.length xs.uc,.int .u8 (IntKind.wrap .u8 (fG (aH 20000 (aB s)))),.bool false,.bool false,aV,aV,aV]) 99 W),(fun W=>(aQ (aQ (aB (aH 20000 (aB s))))).isSome=true/\dJ rb (aQ (aQ (aB (aH 20000 (aB s))))) W/\Bk w3.heap.size ([zi (dD s),.string xs.c.user,zi xs.c.nodes,zi xs.c.wall,zi xs.c.qos,.slice xs.ab xs.c.after.length xs.ac,zi xs.c.cap,zi xs.c.inn,zi xs.c.out,.string xs.c.pool,.slice xs.mb xs.c.make.length xs.mc,.slice xs.db xs.c.drop.length xs.dc,.slice xs.ub xs.c.use.length xs.uc,.int .u8 (IntKind.wrap .u8 (fG (aH 20000 (aB s)))),.bool false,.bool false,aV,aV,aV]) 99 W),(fun W=>(aQ (aQ (aB (aH 20000 (aB s))))).isSome=true/\dJ rb (aQ (aQ (aB (aH 20000 (aB s))))) W/\Bk w3.heap.size ([zi (dD s),.string xs.c.user,zi xs.c.nodes,zi xs.c.wall,zi xs.c.qos,.slice xs.ab xs.c.after.length xs.ac,zi xs.c.cap,zi xs.c.inn,zi xs.c.out,.string xs.c.pool,.slice xs.mb xs.c.make.length xs.mc,.slice xs.db xs.c.drop.length xs.dc,.slice xs.ub xs.c.use.length xs.uc,.int .u8 (IntKind.wrap .u8 (fG (aH 20000 (aB s)))),.bool (iM (aB (aH 20000 (aB s)))),.bool false,aV,aV,aV]) 99 W),(fun W=>(aQ (aQ (aB (aH 20000 (aB s))))).isSome=true/\dJ rb (aQ (aQ (aB (aH 20000 (aB s))))) W/\Bk w3.heap.size ([zi (dD s),.string xs.c.user,zi xs.c.nodes,zi xs.c.wall,zi xs.c.qos,.slice xs.ab xs.c.after.length xs.ac,zi xs.c.cap,zi xs.c.inn,zi xs.c.out,.string xs.c.pool,.slice xs.mb xs.c.make.length xs.mc,.slice xs.db xs.c.drop.length xs.dc,.slice xs.ub xs.c.use.length xs.uc,.int .u8 (IntKind.wrap .u8 (fG (aH 20000 (aB s)))),.bool (iM (aB (aH 20000 (aB s)))),.bool (iM (aQ (aB (aH 20000 (aB s))))),aV,aV,aV]) 99 W)]) rfl ⟨aC,aC,aC,aC,aC,fI,aC,fI,trivial⟩ rfl rfl rfl (by intro P hP a b h k;simp only [aC0,aBy,or_false] at hP;rcases hP with rfl | rfl | rfl | rfl | rfl;exact ⟨aD3 h.1 k,h.2.below k⟩;exact ⟨h.1,aD3 h.2.1 k,h.2.2.below k⟩;exact ⟨h.1,aD3 h.2.1 k,h.2.2.below k⟩;exact ⟨h.1,aD3 h.2.1 k,h.2.2.below k⟩;exact ⟨h.1,aD3 h.2.1 k,h.2.2.below k⟩)) [] [0,1,2] (by kernel_rfl) rfl rfl (And.intro hB29 hT29) (fun c g W ⟨e,hk,hn⟩=>And.intro rfl (And.intro ((m30).next hk (fun i hi=>hi.elim (fun h=>.inl h) (fun h=>.inr (by have:=lkB5_w;omega)))) (Or.inr (Exists.intro c (And.intro rfl (And.intro e trivial)))))) (fun Sd=>⟨
  iG 0 Sd rfl fun hT q=>dV (q.trans s0) ((hX.km hT (fun e=>e.elim (fun e=>hxr e) nhX_B5)).range) rfl,
  oc 0 [(0,26)] [] rfl rfl rfl (by rintro g1 w1 hT ⟨h0,-⟩ - ⟨hB0,hT0⟩;exact mZ (fst:=[]) (caps:=[]) rfl (dZ (a1 h0)) EU (wY rb (aB (aH 20000 (aB s))) w1 hB0 ((((ho).rd)).rdT).rd) (fun v W hk ⟨e,h1,h2⟩=>And.intro (aD9 hk (fun _ _ h=>.inl h)) (And.intro e (And.intro h1 (And.intro h2 (Bk.km hT0 hk (fun e=>hnrB5 e)))))) (fun c W hk ⟨e,h1⟩=>⟨e,aD4 hT (aD9 hk (fun _ _ h=>.inl h)),trivial⟩)),
  iG 0 Sd rfl fun hT q=>dV (q.trans s0) ((hX.km hT (fun e=>e.elim (fun e=>hxr e) nhX_B5)).range) rfl,
  oc 1 [(2,28)] [] rfl rfl rfl (by rintro g1 w1 hT ⟨h2,-⟩ - ⟨hs0,hB0,hT0⟩;exact mZ (fst:=[]) (caps:=[]) rfl (dZ (a1 h2)) EU (wY rb (aQ (aB (aH 20000 (aB s)))) w1 hB0 ((((ho).rd).rdT).rd).rdF) (fun v W hk ⟨e,h1,h2⟩=>And.intro (aD9 hk (fun _ _ h=>.inl h)) (And.intro e (And.intro h1 (And.intro h2 (Bk.km hT0 hk (fun e=>hnrB5 e)))))) (fun c W hk ⟨e,h1⟩=>⟨e,aD4 hT (aD9 hk (fun _ _ h=>.inl h)),trivial⟩)),
  jA 2 Sd rfl fun q=>Es (q.trans s2),
  oc 2 [(1,27),(4,30)] [] rfl rfl rfl (by rintro g1 w1 hT ⟨h1,h4,-⟩ - ⟨hs0,hB0,hT0⟩;exact BR hT0 sizeOf4 h4 h1 rfl rfl (fun W hB9 O z=>And.intro (aD0 O (.inr rfl)) (And.intro True.intro (And.intro hs0 (And.intro (aEa hB0 O (fun e=>hnrB5 e.symm)) hB9))))),
  jA 2 Sd rfl fun q=>Ip (q.trans s2),
  oc 3 [(3,29),(6,31)] [] rfl rfl rfl (by rintro g1 w1 hT ⟨h3,h6,-⟩ - ⟨hs0,hB0,hT0⟩;exact BR hT0 sizeOf4 h6 h3 rfl rfl (fun W hB9 O z=>And.intro (aD0 O (.inr rfl)) (And.intro True.intro (And.intro hs0 (And.intro (aEa hB0 O (fun e=>hnrB5 e.symm)) hB9))))),
  trivial⟩) ?_
 rintro g37 w37 k37 - ⟨o0,o1,o2,-⟩ ⟨hs37,hB37,hT37⟩
 have s0:=o0.trans s0
 have s1:=o1.trans s1
 have s2:=o2.trans s2
 have hX:=hX.km k37 (fun e=>e.elim (fun e=>hxr e) nhX_B5)
 have B1:=B1.km k37 (fun e=>e.elim (fun e=>hnrB1 e) nB1_B5)
 have hxa:=hxa.km k37 (fun i hi e=>by have:=hxo i hi;have:=hrbq;omega)
 have B13:=B13.km k37 (fun e=>e.elim (fun e=>hnrB13 e) nB5_B13.symm)
 have B15:=B15.km k37 (fun e=>e.elim (fun e=>hnrB15 e) nB5_B15.symm)
 have m38:=m30.next k37 (fun i hi=>hi.elim (fun h=>.inl h) (fun h=>.inr (by have:=lkB5_w;omega)))
 have hrbw38:=hB37.lt
 have htbw38:=hT37.lt
 have hzw38:=m38.size
 have hxlt38:=hxa.lt
 have hlb39:=hB37.lt
 have hlb40:=hX.lt
 have hlb41:=B1.lt
 have hlb42:=hT37.lt
 have hlb43:=B13.lt
 have hlb44:=B15.lt
 refine CP (fun c W=>c=gK/\KM (fun i=>i=rb\/i=w3.heap.size) w37 W/\True) (eE (V:=_::(vE (zi (dD (aQ (aQ (aB (aH 20000 (aB s))))))))::_::(vE (zi (dD (aB (aQ (aQ (aB (aH 20000 (aB s)))))))))::_::(vE (zi (dD (aB (aB (aQ (aQ (aB (aH 20000 (aB s))))))))))::_::(fun _ _=>True)::_::(fun _ _=>True)::_::(fun _ _=>True)::[]) (M:=fun i=>i=rb\/i=w3.heap.size) (ch:=[1,3,5,7,9,11]) (L:=[(fun W=>dJ rb (aQ (aQ (aB (aH 20000 (aB s))))) W/\Bk w3.heap.size ([zi (dD s),.string xs.c.user,zi xs.c.nodes,zi xs.c.wall,zi xs.c.qos,.slice xs.ab xs.c.after.length xs.ac,zi xs.c.cap,zi xs.c.inn,zi xs.c.out,.string xs.c.pool,.slice xs.mb xs.c.make.length xs.mc,.slice xs.db xs.c.drop.length xs.dc,.slice xs.ub xs.c.use.length xs.uc,.int .u8 (IntKind.wrap .u8 (fG (aH 20000 (aB s)))),.bool (iM (aB (aH 20000 (aB s)))),.bool (iM (aQ (aB (aH 20000 (aB s))))),aV,aV,aV]) 99 W),(fun W=>(aB (aQ (aQ (aB (aH 20000 (aB s)))))).isSome=true/\dJ rb (aB (aQ (aQ (aB (aH 20000 (aB s)))))) W/\Bk w3.heap.size ([zi (dD s),.string xs.c.user,zi xs.c.nodes,zi xs.c.wall,zi xs.c.qos,.slice xs.ab xs.c.after.length xs.ac,zi xs.c.cap,zi xs.c.inn,zi xs.c.out,.string xs.c.pool,.slice xs.mb xs.c.make.length xs.mc,.slice xs.db xs.c.drop.length xs.dc,.slice xs.ub xs.c.use.length xs.uc,.int .u8 (IntKind.wrap .u8 (fG (aH 20000 (aB s)))),.bool (iM (aB (aH 20000 (aB s)))),.bool (iM (aQ (aB (aH 20000 (aB s))))),aV,aV,aV]) 99 W),(fun W=>(aB (aB (aQ (aQ (aB (aH 20000 (aB s))))))).isSome=true/\dJ rb (aB (aB (aQ (aQ (aB (aH 20000 (aB s))))))) W/\Bk w3.heap.size ([zi (dD s),.string xs.c.user,zi xs.c.nodes,zi xs.c.wall,zi xs.c.qos,.slice xs.ab xs.c.after.length xs.ac,zi xs.c.cap,zi xs.c.inn,zi xs.c.out,.string xs.c.pool,.slice xs.mb xs.c.make.length xs.mc,.slice xs.db xs.c.drop.length xs.dc,.slice xs.ub xs.c.use.length xs.uc,.int .u8 (IntKind.wrap .u8 (fG (aH 20000 (aB s)))),.bool (iM (aB (aH 20000 (aB s)))),.bool (iM (aQ (aB (aH 20000 (aB s))))),aV,aV,aV]) 99 W),(fun W=>(aB (aB (aB (aQ (aQ (aB (aH 20000 (aB s)))))))).isSome=true/\dJ rb (aB (aB (aB (aQ (aQ (aB (aH 20000 (aB s)))))))) W/\Bk w3.heap.size ([zi (dD s),.string xs.c.user,zi xs.c.nodes,zi xs.c.wall,zi xs.c.qos,.slice xs.ab xs.c.after.length xs.ac,zi xs.c.cap,zi xs.c.inn,zi xs.c.out,.string xs.c.pool,.slice xs.mb xs.c.make.length xs.mc,.slice xs.db xs.c.drop.length xs.dc,.slice xs.ub xs.c.use.length xs.uc,.int .u8 (IntKind.wrap .u8 (fG (aH 20000 (aB s)))),.bool (iM (aB (aH 20000 (aB s)))),.bool (iM (aQ (aB (aH 20000 (aB s))))),aV,aV,aV]) 99 W),(fun W=>(aB (aB (aB (aQ (aQ (aB (aH 20000 (aB s)))))))).isSome=true/\dJ rb (aB (aB (aB (aQ (aQ (aB (aH 20000 (aB s)))))))) W/\Bk w3.heap.size ([zi (dD s),.string xs.c.user,zi xs.c.nodes,zi xs.c.wall,zi xs.c.qos,.slice xs.ab xs.c.after.length xs.ac,zi xs.c.cap,zi xs.c.inn,zi xs.c.out,.string xs.c.pool,.slice xs.mb xs.c.make.length xs.mc,.slice xs.db xs.c.drop.length xs.dc,.slice xs.ub xs.c.use.length xs.uc,.int .u8 (IntKind.wrap .u8 (fG (aH 20000 (aB s)))),.bool (iM (aB (aH 20000 (aB s)))),.bool (iM (aQ (aB (aH 20000 (aB s))))),zi (dD (aQ (aQ (aB (aH 20000 (aB s)))))),aV,aV]) 99 W),(fun W=>(aB (aB (aB (aQ (aQ (aB (aH 20000 (aB s)))))))).isSome=true/\dJ rb (aB (aB (aB (aQ (aQ (aB (aH 20000 (aB s)))))))) W/\Bk w3.heap.size ([zi (dD s),.string xs.c.user,zi xs.c.nodes,zi xs.c.wall,zi xs.c.qos,.slice xs.ab xs.c.after.length xs.ac,zi xs.c.cap,zi xs.c.inn,zi xs.c.out,.string xs.c.pool,.slice xs.mb xs.c.make.length xs.mc,.slice xs.db xs.c.drop.length xs.dc,.slice xs.ub xs.c.use.length xs.uc,.int .u8 (IntKind.wrap .u8 (fG (aH 20000 (aB s)))),.bool (iM (aB (aH 20000 (aB s)))),.bool (iM (aQ (aB (aH 20000 (aB s))))),zi (dD (aQ (aQ (aB (aH 20000 (aB s)))))),zi (dD (aB (aQ (aQ (aB (aH 20000 (aB s))))))),aV]) 99 W),(fun W=>(aB (aB (aB (aQ (aQ (aB (aH 20000 (aB s)))))))).isSome=true/\dJ rb (aB (aB (aB (aQ (aQ (aB (aH 20000 (aB s)))))))) W/\Bk w3.heap.size ([zi (dD s),.string xs.c.user,zi xs.c.nodes,zi xs.c.wall,zi xs.c.qos,.slice xs.ab xs.c.after.length xs.ac,zi xs.c.cap,zi xs.c.inn,zi xs.c.out,.string xs.c.pool,.slice xs.mb xs.c.make.length xs.mc,.slice xs.db xs.c.drop.length xs.dc,.slice xs.ub xs.c.use.length xs.uc,.int .u8 (IntKind.wrap .u8 (fG (aH 20000 (aB s)))),.bool (iM (aB (aH 20000 (aB s)))),.bool (iM (aQ (aB (aH 20000 (aB s))))),zi (dD (aQ (aQ (aB (aH 20000 (aB s)))))),zi (dD (aB (aQ (aQ (aB (aH 20000 (aB s))))))),zi (dD (aB (aB (aQ (aQ (aB (aH 20000 (aB s))))))))]) 99 W)]) rfl ⟨aC,aC,aC,aC,aC,aC,aC,fI,aC,fI,aC,fI,trivial⟩ rfl rfl rfl (by intro P hP a b h k;simp only [aC0,aBy,or_false] at hP;rcases hP with rfl | rfl | rfl | rfl | rfl | rfl | rfl;exact ⟨aD3 h.1 k,h.2.below k⟩;exact ⟨h.1,aD3 h.2.1 k,h.2.2.below k⟩;exact ⟨h.1,aD3 h.2.1 k,h.2.2.below k⟩;exact ⟨h.1,aD3 h.2.1 k,h.2.2.below k⟩;exact ⟨h.1,aD3 h.2.1 k,h.2.2.below k⟩;exact ⟨h.1,aD3 h.2.1 k,h.2.2.below k⟩;exact ⟨h.1,aD3 h.2.1 k,h.2.2.below k⟩)) [] [1,2] (by kernel_rfl) rfl rfl (And.intro hB37 hT37) (fun c g W ⟨e,hk,hn⟩=>And.intro rfl (And.intro ((m38).next hk (fun i hi=>hi.elim (fun h=>.inl h) (fun h=>.inr (by have:=lkB5_w;omega)))) (Or.inr (Exists.intro c (And.intro rfl (And.intro e trivial)))))) (fun Sd=>⟨
  iG 0 Sd rfl fun hT q=>dV (q.trans s0) ((hX.km hT (fun e=>e.elim (fun e=>hxr e) nhX_B5)).range) rfl,
  oc 0 [(0,32)] [] rfl rfl rfl (by rintro g1 w1 hT ⟨h0,-⟩ - ⟨hB0,hT0⟩;exact mZ (fst:=[]) (caps:=[]) rfl (dZ (a1 h0)) kB (eC rb (aQ (aQ (aB (aH 20000 (aB s))))) w1 hB0 ((((((ho).rd)).rdT).rd).rdF).rdF) (fun v W hk ⟨e,h1,h2⟩=>And.intro (aD9 hk (fun _ _ h=>.inl h)) (And.intro e (And.intro h1 (And.intro h2 (Bk.km hT0 hk (fun e=>hnrB5 e)))))) (fun c W hk ⟨e,h1⟩=>⟨e,aD4 hT (aD9 hk (fun _ _ h=>.inl h)),trivial⟩)),
  iG 0 Sd rfl fun hT q=>dV (q.trans s0) ((hX.km hT (fun e=>e.elim (fun e=>hxr e) nhX_B5)).range) rfl,
  oc 1 [(2,34)] [] rfl rfl rfl (by rintro g1 w1 hT ⟨h2,-⟩ - ⟨hs0,hB0,hT0⟩;exact mZ (fst:=[]) (caps:=[]) rfl (dZ (a1 h2)) kB (eC rb (aB (aQ (aQ (aB (aH 20000 (aB s)))))) w1 hB0 ((((((ho).rd).rdT).rd).rdF).rdF).rd) (fun v W hk ⟨e,h1,h2⟩=>And.intro (aD9 hk (fun _ _ h=>.inl h)) (And.intro e (And.intro h1 (And.intro h2 (Bk.km hT0 hk (fun e=>hnrB5 e)))))) (fun c W hk ⟨e,h1⟩=>⟨e,aD4 hT (aD9 hk (fun _ _ h=>.inl h)),trivial⟩)),
  iG 0 Sd rfl fun hT q=>dV (q.trans s0) ((hX.km hT (fun e=>e.elim (fun e=>hxr e) nhX_B5)).range) rfl,
  oc 2 [(4,36)] [] rfl rfl rfl (by rintro g1 w1 hT ⟨h4,-⟩ - ⟨hs0,hB0,hT0⟩;exact mZ (fst:=[]) (caps:=[]) rfl (dZ (a1 h4)) kB (eC rb (aB (aB (aQ (aQ (aB (aH 20000 (aB s))))))) w1 hB0 ((((((((ho).rd)).rdT).rd).rdF).rdF).rd).rd) (fun v W hk ⟨e,h1,h2⟩=>And.intro (aD9 hk (fun _ _ h=>.inl h)) (And.intro e (And.intro h1 (And.intro h2 (Bk.km hT0 hk (fun e=>hnrB5 e)))))) (fun c W hk ⟨e,h1⟩=>⟨e,aD4 hT (aD9 hk (fun _ _ h=>.inl h)),trivial⟩)),
  jA 2 Sd rfl fun q=>EA (q.trans s2),
  oc 3 [(1,33),(6,38)] [] rfl rfl rfl (by rintro g1 w1 hT ⟨h1,h6,-⟩ - ⟨hs0,hB0,hT0⟩;exact BR hT0 sizeOf2 h6 h1 rfl rfl (fun W hB9 O z=>And.intro (aD0 O (.inr rfl)) (And.intro True.intro (And.intro hs0 (And.intro (aEa hB0 O (fun e=>hnrB5 e.symm)) hB9))))),
  jA 2 Sd rfl fun q=>Fe (q.trans s2),
  oc 4 [(3,35),(8,39)] [] rfl rfl rfl (by rintro g1 w1 hT ⟨h3,h8,-⟩ - ⟨hs0,hB0,hT0⟩;exact BR hT0 sizeOf2 h8 h3 rfl rfl (fun W hB9 O z=>And.intro (aD0 O (.inr rfl)) (And.intro True.intro (And.intro hs0 (And.intro (aEa hB0 O (fun e=>hnrB5 e.symm)) hB9))))),
  jA 2 Sd rfl fun q=>Ff (q.trans s2),
  oc 5 [(5,37),(10,40)] [] rfl rfl rfl (by rintro g1 w1 hT ⟨h5,h10,-⟩ - ⟨hs0,hB0,hT0⟩;exact BR hT0 sizeOf2 h10 h5 rfl rfl (fun W hB9 O z=>And.intro (aD0 O (.inr rfl)) (And.intro True.intro (And.intro hs0 (And.intro (aEa hB0 O (fun e=>hnrB5 e.symm)) hB9))))),
  trivial⟩) ?_
 rintro g45 w45 k45 - ⟨o1,o2,-⟩ ⟨hs45,hB45,hT45⟩
 have s1:=o1.trans s1
 have s2:=o2.trans s2
 have B1:=B1.km k45 (fun e=>e.elim (fun e=>hnrB1 e) nB1_B5)
 have hxa:=hxa.km k45 (fun i hi e=>by have:=hxo i hi;have:=hrbq;omega)
 have m46:=m38.next k45 (fun i hi=>hi.elim (fun h=>.inl h) (fun h=>.inr (by have:=lkB5_w;omega)))
 refine rg (sq (IJ s2 hT45.range rfl) (bR (vs:=[zi (dD s),.string xs.c.user,zi xs.c.nodes,zi xs.c.wall,zi xs.c.qos,.slice xs.ab xs.c.after.length xs.ac,zi xs.c.cap,zi xs.c.inn,zi xs.c.out,.string xs.c.pool,.slice xs.mb xs.c.make.length xs.mc,.slice xs.db xs.c.drop.length xs.dc,.slice xs.ub xs.c.use.length xs.uc,.int .u8 (IntKind.wrap .u8 (fG (aH 20000 (aB s)))),.bool (iM (aB (aH 20000 (aB s)))),.bool (iM (aQ (aB (aH 20000 (aB s))))),zi (dD (aQ (aQ (aB (aH 20000 (aB s)))))),zi (dD (aB (aQ (aQ (aB (aH 20000 (aB s))))))),zi (dD (aB (aB (aQ (aQ (aB (aH 20000 (aB s))))))))]) B1 sizeOf99 s1 rfl rfl rfl fun w47 B1n O47 z47 =>?_))
 replace B1:=B1n
 have hB45:=hB45.only O47 nhB_B1
 have hxa:=hxa.only O47 (fun e=>by have:=hxo _ e;have:=hxlB13 _ e;have:=hxlB15 _ e;omega)
 have m48:=m46.only O47 (.inr lkB1_w)
 refine nx (aE ?_)
 have hend:=m48.size
 have hownlt:=hxa.lt
 have hcz:=hck.size
 have hcl:Bk w.heap.size (dH.cells (⟨dD s,xs,(IntKind.wrap .u8 (fG (aH 20000 (aB s)))).toNat,iM (aB (aH 20000 (aB s))),iM (aQ (aB (aH 20000 (aB s)))),dD (aQ (aQ (aB (aH 20000 (aB s))))),dD (aB (aQ (aQ (aB (aH 20000 (aB s)))))),dD (aB (aB (aQ (aQ (aB (aH 20000 (aB s)))))))⟩:dH)) 99 w47:=by have h9:=B1;rw [(NO (fG (aH 20000 (aB s)))).1] at h9;exact h9
 exact tY (rW rfl s1 (vZ (cs:=dH.cells (⟨dD s,xs,(IntKind.wrap .u8 (fG (aH 20000 (aB s)))).toNat,iM (aB (aH 20000 (aB s))),iM (aQ (aB (aH 20000 (aB s)))),dD (aQ (aQ (aB (aH 20000 (aB s))))),dD (aB (aQ (aQ (aB (aH 20000 (aB s)))))),dD (aB (aB (aQ (aQ (aB (aH 20000 (aB s)))))))⟩:dH)) isAgg99 sizeOf99 hcl)) ⟨m48,.inl ⟨_,rfl,(⟨dD s,xs,(IntKind.wrap .u8 (fG (aH 20000 (aB s)))).toNat,iM (aB (aH 20000 (aB s))),iM (aQ (aB (aH 20000 (aB s)))),dD (aQ (aQ (aB (aH 20000 (aB s))))),dD (aB (aQ (aQ (aB (aH 20000 (aB s)))))),dD (aB (aB (aQ (aQ (aB (aH 20000 (aB s)))))))⟩:dH),rfl,⟨⟨hxf,(NO _).2,bZ _,bZ _,bZ _⟩,hxw,hxa⟩,fun i hi=>⟨aC7 hcz (hxo i hi),hownlt i hi⟩,hs45,hB45⟩⟩
def eB (s:ByteArray):Option ByteArray:=if 8<=s.size/\(kD (s.data.toList.take (s.size - 8)) == s.data.toList)=true then some (s.extract 0 (s.size - 8)) else none
theorem Kw (s) (w) (hs:s.size<=70368744177664):cT 10 [.string s] w fun v _=>v=.tuple #[.string ((eB s).getD ⟨#[]⟩),.bool (eB s).isSome]:=by
 by_cases h8:8<=s.size
 ·cases hq:(kD (s.data.toList.take (s.size - 8)) == s.data.toList) with
  | false=>
   have e:eB s=none:=by unfold eB;rw [aEd];rw [hq];simp
   rw [e];exact oM (Uq s w h8 hs hq)
  | true=>
   have e:eB s=some (s.extract 0 (s.size - 8)):=by unfold eB;rw [aEc ⟨h8,hq⟩]
   rw [e];exact oM (PQ s w h8 hs hq)
 ·have e:eB s=none:=by unfold eB;rw [aEd];exact fun h=>h8 h.1
  rw [e];exact oM (IR s w (by omega))
theorem BA (h:eB s=some t):t.size+8<=s.size:=by
 unfold eB at h
 split at h
 ·rename_i hc;cases h;rw [aA0];omega
 ·cases h
def eK (s:Option ByteArray):Int:=IntKind.wrap .i64 (fG s)
theorem wU (rb) (s:Option ByteArray) (w) (hB:dJ rb s w) (ho:bM s):jP (·=rb) 124 [.agg [pt rb 0].toArray] w fun v w'=>v=zi (eK s)/\dJ rb (aB s) w':=by
 refine aJ (n:=7) func124 rfl ntmps124 (aA1 rfl) (rg (cO (cs:=[pt rb (0)]) rfl rfl fun w1 B1 k1 z1 =>?_))
 have hnx:w.heap.size≠rb:=by have:=aEf hB;omega
 have nhB_B1:=aC8 hB.lt
 have lkB1_w:=aDl w.heap.size
 have hB:=hB.below k1
 have m2:KM (·=rb) w w1:=aDr k1
 refine bU (nx (rg (sq (yC rfl) (sq (uG rfl (B1.cell 0 rfl)) (rG (fst:=[]) (caps:=[]) If rfl (dZ (a1 rfl)) (vV rb s _ hB ho) ?_)))))
 rintro v3 w3 k3 ⟨rfl,hB⟩
 have m4:=m2.next k3 (fun i (hi:i=rb)=>.inl hi)
 exact sq (pO underlying104 underlying2 rfl) (aW (zi (IntKind.wrap .i64 (fG s))) rfl (nx (aE (fO rfl ⟨_,rfl,m4,rfl,hB⟩))))
theorem Ue (rb) (s:Option ByteArray) (w) (hB:dJ rb s w) (ho:bM s):jP (·=rb) 126 [pt rb 0,zi 32] w fun v w'=>v=.string (jG 32 s)/\dJ rb (aH 32 s) w':=FP rb 32 s w hB ho
def Hr (s:Option ByteArray):eY:=⟨jG 32 s,eK (aH 32 s),eK (aB (aH 32 s)),eK (aB (aB (aH 32 s))),iM (aB (aB (aB (aH 32 s))))⟩
def Wt (s:Option ByteArray):Option ByteArray:=aQ (aB (aB (aB (aH 32 s))))
theorem Dh: Ck Wt:=((((oO 32).comp cH).comp cH).comp cH).comp lK
theorem Qd {s:Option ByteArray} (ho:bM s):(Hr s).Fit:=⟨tK _ ho,dU _,dU _,dU _⟩
def Iz (a b:Value) (s:Option ByteArray) (i:Nat):List Value:=a::b::(List.range 10).map fun j=>if j<i then zi (eK (pP aB j s)) else zi 0
theorem Pa (a b) (s:Option ByteArray) (i):(Iz a b s i).length=12:=by simp [Iz]
theorem Oa {s:Option ByteArray} (hi:i<10):(Iz a b s i).set (2+i) (zi (eK (pP aB i s)))=Iz a b s (i+1):=by
 rcases (show i=0\/i=1\/i=2\/i=3\/i=4\/i=5\/i=6\/i=7\/i=8\/i=9 by omega) with rfl | rfl | rfl | rfl | rfl | rfl | rfl | rfl | rfl | rfl <;> rfl
def kQ (nodes:Int) (b:Option Addr) (c:Nat) (l:List eY) (s:Option ByteArray):aZ:=⟨nodes,b,c,l,eK (pP aB 0 s),eK (pP aB 1 s),eK (pP aB 2 s),eK (pP aB 3 s),eK (pP aB 4 s),eK (pP aB 5 s),eK (pP aB 6 s),eK (pP aB 7 s),eK (pP aB 8 s),eK (pP aB 9 s)⟩
theorem ED (nodes:Int) (b) (c) (l:List eY) (s:Option ByteArray):Iz (zi nodes) (.slice b l.length c) s 10=aZ.cells (kQ nodes b c l s):=by
 unfold Iz kQ aZ.cells
 rw [show List.range 10=[0,1,2,3,4,5,6,7,8,9] from rfl]
 simp only [aC3,aDb,Nat.reduceLT,if_true]
def uW:aZ:=⟨0,none,0,[],0,0,0,0,0,0,0,0,0,0⟩
theorem IS (bs) (cs) (w) (hB:Bk bs cs 29 w) (s) (hs:cs=aZ.cells s):cT 100 [pt bs 0] w fun v _=>v=.agg (FK bs).toArray:=by subst hs;exact sI bs s w hB
def BV (t:ByteArray) (x:aZ):Prop:=∃ (l:List eY) (b:Option Addr) (c:Nat) (s3:Option ByteArray),x=kQ (eK (some t)) b c l s3/\((fG (aB (some t))).toNat=0->l=[]/\s3=aB (aB (some t)))
theorem bM.it {s:Option ByteArray} (h:bM s):∀ i,bM (pP aB i s)
 | 0=>h
 | i+1=>(h.it i).rd
theorem DN {α:Type} (o:Option α):o=none\/∃ t,o=some t:=by cases o;exact .inl rfl;exact .inr ⟨_,rfl⟩
theorem Vg {x:aZ} (h:((!decide ((cA 270 (bH x):Int)=(0:Int)))||(!decide ((dW x)=b)))=true):¬ (bH x=true/\dW x=b):=by
 rintro ⟨h1,h2⟩
 rw [uH h1,h2] at h
 simp at h
theorem MW {x:aZ} (h:((!decide ((cA 270 (bH x):Int)=(0:Int)))||(!decide ((dW x)=b)))=false):bH x=true/\dW x=b:=by
 simp only [aA7] at h
 exact ⟨nM (by decide) h.1,by simpa using h.2⟩
theorem bd29 {g:Nat->Value} {ty:TypeId}    : aL n g ⟨dd,.build 29 #[],ty,pos,aft,gd⟩ w (.agg RV.toArray):=
 iA (ps:=[]) (by simp only [aC3,aDb];kernel_rfl)
theorem PI {n:Nat} {g:Nat->Value} {w:World} {dd:Option Tmp} {ty:TypeId} {pos:String} {aft:Array Edge} {gd:Option (Nat × Bool)} {x0:Operand} {a1:Nat} {o1:Nat} (h0:ev n g x0=pt a1 o1):aL n g ⟨dd,.build 209 #[(0,x0)],ty,pos,aft,gd⟩ w (.agg [pt a1 o1].toArray):=
 iA (ps:=[(0,x0)]) (by simp only [aC3,aDb,h0];kernel_rfl)
theorem Iq {g:Nat->Value} {ty:TypeId} {a1:Int} (h0:ev n g x0=zi a1):aL n g ⟨dd,.build 29 #[(0,x0)],ty,pos,aft,gd⟩ w (.agg [zi a1,cP,aV,aV,aV,aV,aV,aV,aV,aV,aV,aV].toArray):=
 iA (ps:=[(0,x0)]) (by simp only [aC3,aDb,h0];kernel_rfl)
theorem mT {n:Nat} {g:Nat->Value} {w:World} {dd:Option Tmp} {ty:TypeId} {pos:String} {aft:Array Edge} {gd:Option (Nat × Bool)} {x0 x1 x2 x3 x4:Operand} {a1:ByteArray} {a2:Int} {a3:Int} {a4:Int} {a5:Bool} (h0:ev n g x0=.string a1) (h1:ev n g x1=zi a2) (h2:ev n g x2=zi a3) (h3:ev n g x3=zi a4) (h4:ev n g x4=.bool a5):aL n g ⟨dd,.build 143 #[(0,x0),(1,x1),(2,x2),(3,x3),(4,x4)],ty,pos,aft,gd⟩ w (.agg [.string a1,zi a2,zi a3,zi a4,.bool a5].toArray):=
 iA (ps:=[(0,x0),(1,x1),(2,x2),(3,x3),(4,x4)]) (by simp only [aC3,aDb,h0,h1,h2,h3,h4];kernel_rfl)
theorem Rf (b) (w) (hb:b.size<=900000):cT 42 [.string b] w fun v W=>(eB b=none->v=.tuple #[.agg (aZ.cells uW).toArray,zi 270])/\(∀ t,eB b=some t->∃ x:aZ,BV t x/\x.Fit/\x.At W/\(∀ i,(Value.slice x.pb x.pools.length x.pc).ownBlock=some i->w.heap.size<=i)/\v=if bH x=true/\dW x=b then .tuple #[.agg (aZ.cells x).toArray,zi 0] else .tuple #[.agg (aZ.cells uW).toArray,zi 270]):=by
 refine aJ (n:=82) func42 rfl ntmps42 (aA1 rfl) (rg (eA (cs:=RV) zeroValue29 rfl fun w1 B1 k1 z1 =>?_))
 have leB1:=aDl w.heap.size
 refine bU (nx (rg (aN (.string b) rfl (cE en10 (a1 rfl) (Kw b _ (by omega)) ?_))))
 rintro _ w2 k2 rfl
 have b3:=aDu k1 k2
 have B1:=B1.below k2
 refine aN (.tuple #[.string ((eB b).getD ⟨#[]⟩),.bool ((eB b).isSome)]) rfl (sq (dT rfl rfl) (sq (dT rfl rfl) (aW (.string ((eB b).getD ⟨#[]⟩)) rfl (aW (.bool ((eB b).isSome)) rfl (nx (aF ?_))))))
 rcases DN (eB b) with ht | ⟨t,ht⟩
 ·
  refine rg (aN (.bool false) ((rfl).trans (aD7 Value.bool (show (eB b).isSome=false from by simp [ht]))) (sq (Qi rfl) (nx (Ns rfl (rg (sq (bd29 ) (bR (vs:=RV) B1 sizeOf29 rfl rfl rfl rfl fun w4 B1n O4 z4 =>?_)))))))
  replace B1:=B1n
  have b5:=aS.toBelow O4 b3 b3.size leB1
  refine bU (nx (aE ?_))
  refine tY (R:=fun e W=>∃ v,e=.returned v/\Below w.heap.size w W/\((eB b=none->v=.tuple #[.agg (aZ.cells uW).toArray,zi 270])/\(∀ t,eB b=some t->∃ x:aZ,BV t x/\x.Fit/\x.At W/\(∀ i,(Value.slice x.pb x.pools.length x.pc).ownBlock=some i->w.heap.size<=i)/\v=if bH x=true/\dW x=b then .tuple #[.agg (aZ.cells x).toArray,zi 0] else .tuple #[.agg (aZ.cells uW).toArray,zi 270]))) (by exact Co rfl rfl (vZ (cs:=RV) isAgg29 sizeOf29 B1)) ⟨_,rfl,b5,?_⟩
  exact ⟨fun _=>aD7 (fun q=>Value.tuple #[_,q]) rfl,fun q hq=>(by rw [ht] at hq;cases hq)⟩
 ·
  refine rg (aN (.bool true) ((rfl).trans (aD7 Value.bool (show (eB b).isSome=true from by simp [ht]))) (sq (PN rfl) (nx (rM rfl (aG (rg (aN (.string t) ((rfl).trans (aD7 Value.string (show (eB b).getD ⟨#[]⟩=t from by simp [ht]))) ?_)))))))
  have B1p:=B1
  refine cE YS (a1 rfl) (JY t _) ?_
  rintro v6 w6 k6 ⟨rb,rfl,hrb0,hR⟩
  have b7:=aDu b3 k6
  have B1:=B1.below k6
  have nrb_B1:w.heap.size≠rb:=by have:=B1p.lt;omega
  have hrble:w.heap.size<=rb:=aC7 b3.size hrb0
  have hbt:=BA ht
  have hst:bM (some t):=fun q hq=>by cases hq;omega
  refine sq (PI rfl) (eA (cs:=[.pointer none]) zeroValue209 rfl fun w8 B8 k8 z8 =>?_)
  have nB1_B8:=aC8 B1.lt
  have nhR_B8:=aC8 hR.lt
  have leB8:=b7.size
  have b9:=aDu b7 k8
  have B1:=B1.below k8
  have hR:=hR.below k8
  have nrb_B8:w6.heap.size≠rb:=by have:=nhR_B8;omega
  refine bR (vs:=[pt rb (0)]) B8 sizeOf209 rfl rfl rfl rfl fun w10 B8n O10 z10 =>?_
  replace B8:=B8n
  have b11:=aS.toBelow O10 b9 b9.size leB8
  have B1:=B1.only O10 nB1_B8
  have hR:=hR.only O10 nhR_B8
  refine nx (rg (sq (Fz rfl B8.range rfl) (rG (fst:=[]) (caps:=[]) Gw rfl (dZ (a1 rfl)) (wU rb (some t) _ hR hst) ?_)))
  rintro v12 w12 k12 ⟨rfl,hR⟩
  have B1:=B1.km k12 (fun e=>nrb_B1 e)
  have B8:=B8.km k12 (fun e=>nrb_B8 e)
  have b13:=aDs k12 b11 b11.size (fun i (hi:i=rb)=>by omega)
  refine sq (Iq rfl) (eA (cs:=RV) zeroValue29 rfl fun w14 B14 k14 z14 =>?_)
  have nB1_B14:=aC8 B1.lt
  have nhR_B14:=aC8 hR.lt
  have nB8_B14:=aC8 B8.lt
  have leB14:=b13.size
  have b15:=aDu b13 k14
  have B1:=B1.below k14
  have hR:=hR.below k14
  have B8:=B8.below k14
  have nrb_B14:w12.heap.size≠rb:=by have:=nhR_B14;omega
  refine bR (vs:=[zi (eK (some t)),cP,aV,aV,aV,aV,aV,aV,aV,aV,aV,aV]) B14 sizeOf29 rfl rfl rfl rfl fun w16 B14n O16 z16 =>?_
  replace B14:=B14n
  have b17:=aS.toBelow O16 b15 b15.size leB14
  have B1:=B1.only O16 nB1_B14
  have hR:=hR.only O16 nhR_B14
  have B8:=B8.only O16 nB8_B14
  refine nx (aF (rg (sq (yC rfl) (sq (uG rfl (B8.cell 0 rfl)) (rG (fst:=[]) (caps:=[]) If rfl (dZ (a1 rfl)) (vV rb (aB (some t)) _ hR (hst).rd) ?_)))))
  rintro v18 w18 k18 ⟨rfl,hR⟩
  have B1:=B1.km k18 (fun e=>nrb_B1 e)
  have B8:=B8.km k18 (fun e=>nrb_B8 e)
  have B14:=B14.km k18 (fun e=>nrb_B14 e)
  have b19:=aDs k18 b17 b17.size (fun i (hi:i=rb)=>by omega)
  refine aW (.int .u64 (fG (aB (some t)))) rfl (nx ?_)
  have hrn:=Ar (aB (some t))
  have hre:fG (aB (some t))=(((fG (aB (some t))).toNat:Nat):Int):=by omega
  obtain ⟨B0,hB0⟩:∃ q,q=w18.heap.size:=⟨_,rfl⟩
  have hlt0_B1:w.heap.size<B0:=by have:=aEf B1;omega
  have hlt0_hR:rb<B0:=by have:=aEf hR;omega
  have hlt0_B8:w6.heap.size<B0:=by have:=aEf B8;omega
  have hlt0_B14:w12.heap.size<B0:=by have:=aEf B14;omega
  have hwB0:w.heap.size<=B0:=by have:=b19.size;omega
  refine aO (lp (fun m g W=>∃ rm:Nat,∃ l:List eY,∃ v:Value,∃ s:Option ByteArray,m=rm/\g 0=.string b/\g 2=pt w.heap.size (0)/\g 3=zi (0)/\g 6=pt w6.heap.size (0)/\g 7=pt w12.heap.size (0)/\g 8=.int .u64 ((rm:Nat):Int)/\Bk w.heap.size (RV) 29 W/\Bk w6.heap.size ([pt rb (0)]) 209 W/\Bk w12.heap.size ([zi (eK (some t)),v,aV,aV,aV,aV,aV,aV,aV,aV,aV,aV]) 29 W/\Below w.heap.size w W/\(W.ownsRow B0 143 5 v l.length (l.flatMap eY.cells)/\dJ rb s W/\bM s/\(∀ p∈l,p.Fit)/\rm+l.length=(fG (aB (some t))).toNat/\((fG (aB (some t))).toNat=0->l=[]/\s=aB (aB (some t)))/\(∀ q,s=some q->q.size+l.length<=900000)/\l.length<=900001/\B0<=W.heap.size)) _ ⟨(fG (aB (some t))).toNat,[],cP,aB (aB (some t)),rfl,rfl,rfl,rfl,rfl,rfl,((rfl).trans (aD7 (Value.int .u64) hre)),B1,B8,B14,b19,⟨fL _ _ _ _,hR,hst.rd.rd,(fun p hp=>absurd hp aBy),by simp,(fun _=>⟨rfl,rfl⟩),(fun q hq=>by have:=hst.rd.rd q hq;have h1:=cH.comp cH;have:=h1.dec _ _ hq;simp only [aCk];omega),by simp,by omega⟩⟩ ?_)
  rintro m g20 w20 ⟨rm,l,v,s,hme,s0,s2,s3,s6,s7,s8,B1,B8,B14,FC,⟨hO,hR,hsh,hpf,hrl,hN0,hql,hll,hBz⟩⟩
  have hOge:∀ i,Value.ownBlock v=some i->B0<=i:=aM hO
  have hOlw:∀ i,Value.ownBlock v=some i->w.heap.size<=i:=fun i hi=>aC7 hwB0 (hOge i hi)
  have hOn_B1:∀ i,Value.ownBlock v=some i->i≠w.heap.size:=fun i hi=>by have:=hOge i hi;omega
  have hOn_hR:∀ i,Value.ownBlock v=some i->i≠rb:=fun i hi=>by have:=hOge i hi;omega
  have hOn_B8:∀ i,Value.ownBlock v=some i->i≠w6.heap.size:=fun i hi=>by have:=hOge i hi;omega
  have hOn_B14:∀ i,Value.ownBlock v=some i->i≠w12.heap.size:=fun i hi=>by have:=hOge i hi;omega
  refine aF ?_
  refine sQ (_::_::_::_::_::(GV (decide ((0:Int)<(((rm:Nat):Int):Int))) (vE (.bool s.isSome)))::_::[]) [(6,37)] [0,2,3,6,7,8] rfl ⟨aA,aA,aA,aD aA,aD aA,aD aA,aA,trivial⟩ (by kernel_rfl) rfl rfl rfl (fun Sd=>⟨
   bF Sd rfl s8,
   aP [0] Sd rfl fun h=>gH h.1 rfl,
   oW [(1,32)] [] Sd rfl fun _ _ _ h _=>dv aT h.1,
   qI 6 Sd rfl fun e q=>yC (q.trans s6),
   dM [3] Sd rfl fun e hT h=>uG (h.1.1 e) ((B8.below hT).cell 0 rfl),
   oT [(4,35)] [] Sd rfl i2 gU fun e _ _ hT h _=>dG e (gV (a1 (h.1.1 e)) yQ (lM rb s _ (aD3 hR hT))),
   aP [2,5] Sd rfl fun h=>cG h.1 (fun c=>h.2.1.1 c),
   trivial⟩) ?_
  rintro g21 w21 k21 ⟨s37,-⟩ ⟨o0,o2,o3,o6,o7,o8,-⟩
  have s0:=o0.trans s0
  have s2:=o2.trans s2
  have s3:=o3.trans s3
  have s6:=o6.trans s6
  have s7:=o7.trans s7
  have s8:=o8.trans s8
  have b22:=aDu FC k21
  have B1:=B1.below k21
  have B8:=B8.below k21
  have B14:=B14.below k21
  have hR:=hR.below k21
  have hO:=bE hO k21
  refine cd s37 (fun c23=>?_) (fun c23=>?_)
  ·
   refine aG (aF (aO ?_))
   have hcc:=c23
   simp only [aB0,aBq] at hcc
   have hrm0:0<rm:=by omega
   have hsm:=hcc.2
   have hlb0:=hBz
   have hlb24:=aEf B1
   have hlb25:=aEf B8
   have hlb26:=aEf B14
   have hlb27:=aEf hR
   have hBz8:=aC7 hBz k21.size
   have hownlt9:=bA hO
   refine EY 14 (fun _ _=>False) (eE (V:=_::_::(vE (.string (jG 32 s)))::_::(vE (zi (eK (aH 32 s))))::_::(vE (zi (eK (aB (aH 32 s)))))::_::(vE (zi (eK (aB (aB (aH 32 s))))))::_::_::(vE (.bool (iM (aB (aB (aB (aH 32 s)))))))::_::(fun v W=>∃ b,v=pt b 0/\w21.heap.size<=b/\Bk b zl7 143 W)::[]) (M:=fun i=>i=rb) (ch:=[2,4,6,8,11]) (L:=[(fun W=>dJ rb s W),(fun W=>dJ rb (aH 32 s) W),(fun W=>dJ rb (aB (aH 32 s)) W),(fun W=>dJ rb (aB (aB (aH 32 s))) W),(fun W=>dJ rb (aB (aB (aB (aH 32 s)))) W),(fun W=>dJ rb (aQ (aB (aB (aB (aH 32 s))))) W)]) rfl ⟨aC,aC,aC,aC,aC,aC,aC,aC,aC,aC,aC,aC,aC,(XO (fun i (hi:i=rb)=>by have:=hlb27;omega)),trivial⟩ rfl rfl rfl (by intro P hP a b h k;simp only [aC0,aBy,or_false] at hP;rcases hP with rfl | rfl | rfl | rfl | rfl | rfl;exact aD3 h k;exact aD3 h k;exact aD3 h k;exact aD3 h k;exact aD3 h k;exact aD3 h k)) [(13,9),(12,52)] [0,2,3,6,7,8] rfl (by kernel_rfl) rfl rfl rfl rfl rfl hR (fun _ _ _ h=>h.elim) (fun Sd=>⟨
    jA 6 Sd rfl fun q=>yC (q.trans s6),
    fY [0] Sd rfl fun hT h=>uG h.1 ((B8.km hT (fun e=>nrb_B8 e)).cell 0 rfl),
    oc 0 [(1,41)] [] rfl rfl rfl (by rintro g1 w1 hT ⟨h1,-⟩ - hB0;exact YH (fst:=[]) (caps:=[]) rfl (dZ (a2 h1 rfl)) VQ (Ue rb s w1 hB0 hsh) (fun v W hk ⟨e,h2⟩=>And.intro hk (And.intro e h2))),
    iG 6 Sd rfl fun hT q=>Fz (q.trans s6) ((B8.km hT (fun e=>nrb_B8 e)).range) rfl,
    oc 1 [(3,43)] [] rfl rfl rfl (by rintro g1 w1 hT ⟨h3,-⟩ - hB0;exact YH (fst:=[]) (caps:=[]) rfl (dZ (a1 h3)) Gw (wU rb (aH 32 s) w1 hB0 (hsh).rdT) (fun v W hk ⟨e,h2⟩=>And.intro hk (And.intro e h2))),
    iG 6 Sd rfl fun hT q=>Fz (q.trans s6) ((B8.km hT (fun e=>nrb_B8 e)).range) rfl,
    oc 2 [(5,45)] [] rfl rfl rfl (by rintro g1 w1 hT ⟨h5,-⟩ - hB0;exact YH (fst:=[]) (caps:=[]) rfl (dZ (a1 h5)) Gw (wU rb (aB (aH 32 s)) w1 hB0 ((hsh).rdT).rd) (fun v W hk ⟨e,h2⟩=>And.intro hk (And.intro e h2))),
    iG 6 Sd rfl fun hT q=>Fz (q.trans s6) ((B8.km hT (fun e=>nrb_B8 e)).range) rfl,
    oc 3 [(7,47)] [] rfl rfl rfl (by rintro g1 w1 hT ⟨h7,-⟩ - hB0;exact YH (fst:=[]) (caps:=[]) rfl (dZ (a1 h7)) Gw (wU rb (aB (aB (aH 32 s))) w1 hB0 (((hsh).rdT).rd).rd) (fun v W hk ⟨e,h2⟩=>And.intro hk (And.intro e h2))),
    jA 6 Sd rfl fun q=>yC (q.trans s6),
    fY [9] Sd rfl fun hT h=>uG h.1 ((B8.km hT (fun e=>nrb_B8 e)).cell 0 rfl),
    oc 4 [(10,50)] [] rfl rfl rfl (by rintro g1 w1 hT ⟨h10,-⟩ - hB0;exact YH (fst:=[]) (caps:=[]) rfl (dZ (a1 h10)) Wl (GN rb (aB (aB (aB (aH 32 s)))) w1 hB0 ((((hsh).rdT).rd).rd).rd) (fun v W hk ⟨e,h2⟩=>And.intro hk (And.intro e h2))),
    aP [2,4,6,8,11] Sd rfl fun h=>mT h.1 h.2.1 h.2.2.1 h.2.2.2.1 h.2.2.2.2.1,
    oW [] [] Sd rfl fun _ _ hT _ _=>(Ey (cs:=zl7) zeroValue143 rfl (fun W hB hb=>⟨hb,_,rfl,KM.size hT,hB⟩)),
    trivial⟩) ?_
   rintro g28 w28 k28 ⟨s9,s52,-⟩ ⟨o0,o2,o3,o6,o7,o8,-⟩ hB28 Kq hK
   obtain ⟨ab9,s9,hab9,hAB9⟩:=s9
   have s0:=o0.trans s0
   have s2:=o2.trans s2
   have s3:=o3.trans s3
   have s6:=o6.trans s6
   have s7:=o7.trans s7
   have s8:=o8.trans s8
   have B1:=B1.km k28 (fun e=>nrb_B1 e)
   have B8:=B8.km k28 (fun e=>nrb_B8 e)
   have B14:=B14.km k28 (fun e=>nrb_B14 e)
   have hO:=cY hO k28 (fun i hi e=>by have:=hOge i hi;omega)
   have b29:=aDs k28 b22 b22.size (fun i (hi:i=rb)=>by omega)
   have nnab9_B1:w.heap.size≠ab9:=fun e=>by have:=hlb24;omega
   have nnab9_B8:w6.heap.size≠ab9:=fun e=>by have:=hlb25;omega
   have nnab9_B14:w12.heap.size≠ab9:=fun e=>by have:=hlb26;omega
   have nnab9_hR:rb≠ab9:=fun e=>by have:=hlb27;omega
   have nOab9:∀ i,Value.ownBlock v=some i->i≠ab9:=fun i hi=>by have:=hownlt9 i hi;omega
   have leab9:w.heap.size<=ab9:=aC7 b22.size hab9
   refine kI (vs:=[.string (jG 32 s),zi (eK (aH 32 s)),zi (eK (aB (aH 32 s))),zi (eK (aB (aB (aH 32 s)))),.bool (iM (aB (aB (aB (aH 32 s)))))]) hAB9 sizeOf143 s9 s52 rfl rfl fun w30 hAB9n O30 z30 =>?_
   replace hAB9:=hAB9n
   have b31:=aS.toBelow O30 b29 b29.size leab9
   have B1:=B1.only O30 (fun e=>nnab9_B1.symm e.symm)
   have B8:=B8.only O30 (fun e=>nnab9_B8.symm e.symm)
   have B14:=B14.only O30 (fun e=>nnab9_B14.symm e.symm)
   have hB28:=hB28.only O30 (fun e=>nnab9_hR.symm e.symm)
   have hO:=eF hO O30 nOab9
   refine hK _ _ ?_
   have hAB9:Bk ab9 (eY.cells (Hr s)) 143 w30:=hAB9
   have hBz9:B0<=w30.heap.size:=by have:=aEf hAB9;omega
   refine eO (sq (nJ s7) (sq (CR rfl (B14.cell 1 rfl)) (sq (OY s9 hAB9.range rfl) (Cd (cs:=eY.cells (Hr s)) underlying23 Hi rfl rfl rfl rfl fun w32 B32 k32 z32 =>?_))))
   have nB1_B32:=aC8 B1.lt
   have nB8_B32:=aC8 B8.lt
   have nB14_B32:=aC8 B14.lt
   have nhR_B32:=aC8 hB28.lt
   have nhAB9_B32:=aC8 hAB9.lt
   have leB32:=b31.size
   have leB32_w30:=aDl w30.heap.size
   have b33:=aDu b31 k32
   have B1:=B1.below k32
   have B8:=B8.below k32
   have B14:=B14.below k32
   have hB28:=hB28.below k32
   have hO:=bE hO k32
   have nrb_B32:w30.heap.size≠rb:=by have:=nhR_B32;omega
   refine xZ (m:=1) (sz:=5) underlying23 Hi rfl (aA1 rfl) rfl hO rfl (news:=eY.cells (Hr s)) rfl B32.range rfl (by simp only [maxLen];omega) (by omega) (aC7 hBz9 k32.size) fun v34 w34 hw34 k34 ha34 =>?_
   have B1:=B1.km k34 (fun e=>hOn_B1 _ e rfl)
   have B8:=B8.km k34 (fun e=>hOn_B8 _ e rfl)
   have nOv34_B14:∀ i,Value.ownBlock v34=some i->i≠w12.heap.size:=NN ha34 hOn_B14 B14.lt
   have B14:=B14.km k34 (fun e=>hOn_B14 _ e rfl)
   have hB28:=hB28.km k34 (fun e=>hOn_hR _ e rfl)
   have b35:=aDs k34 b33 b33.size (fun i hi=>hOlw i hi)
   refine sq (nJ s7) (eP B14 sizeOf23 rfl rfl (AK hw34) rfl fun w37 B14n O37 z37 =>?_)
   replace B14:=B14n
   have b38:=aS.toBelow O37 b35 b35.size leB14
   have B1:=B1.only O37 nB1_B14
   have B8:=B8.only O37 nB8_B14
   have hB28:=hB28.only O37 nhR_B14
   have hw34:=eF hw34 O37 nOv34_B14
   exact nl (pI (eO (bI s8 (iJ (.int .u64 ((rm - 1:Nat):Int)) (Eu rfl rfl) (aD7 (Value.int .u64) (DX (by omega) (by omega))) (aW (.int .u64 ((rm - 1:Nat):Int)) rfl (nl (fC (by omega) ⟨rm - 1,l++[Hr s],v34,Wt s,rfl,s0,s2,s3,s6,s7,rfl,B1,B8,B14,b38,⟨by rw [aBh,Ge];exact hw34,hB28,hsh.dec Dh,fun p hp=>by rcases aCv.1 hp with hp | hp;exact hpf p hp;rw [aBj.1 hp];exact Qd hsh,by rw [aBh,aA3];omega,fun h=>by omega,fun q hq=>by rw [aBh,aA3];obtain ⟨q0,hq0⟩:=aAx.1 hsm;rw [hq0] at hq;have:=Dh.dec _ _ hq;have:=hql _ hq0;omega,by rw [aBh,aA3];obtain ⟨q0,hq0⟩:=aAx.1 hsm;have:=hql _ hq0;omega,by have:=k32.size;have:=k34.size;have:=z37;omega⟩⟩)))))))
  ·
   refine cI ?_
   repeat (first | refine bN ?_ | refine dC rfl ?_)
   refine dP ?_
   obtain ⟨pb,pc,rfl,hPR⟩:=eG hO
   obtain ⟨sE,esE⟩:∃ q,q=s:=⟨_,rfl⟩
   subst esE
   refine aF (rg (cE Qf (a1 s7) (IS w12.heap.size _ _ B14 (⟨(eK (some t)),pb,pc,l,0,0,0,0,0,0,0,0,0,0⟩:aZ) rfl) ?_))
   rintro _ w39 k39 rfl
   have b40:=aDu b22 k39
   have B1:=B1.below k39
   have B8:=B8.below k39
   have B14:=B14.below k39
   have hR:=hR.below k39
   have hPR:=hPR.below k39
   refine rU (nx ?_)
   refine aO (lp (fun m g W=>∃ i:Nat,m=10 - i/\g 0=.string b/\g 2=pt w.heap.size (0)/\g 3=zi (0)/\g 6=pt w6.heap.size (0)/\g 7=pt w12.heap.size (0)/\g 59=.agg (FK w12.heap.size).toArray/\g 60=zi ((i:Nat):Int)/\Bk w.heap.size (RV) 29 W/\Bk w6.heap.size ([pt rb (0)]) 209 W/\Bk w12.heap.size (Iz (zi (eK (some t))) (.slice pb l.length pc) sE i) 29 W/\Bk rb (rdC rb (pP aB i sE)) 86 W/\Below w.heap.size w W/\(i<=10/\Rd 5 W (.slice pb l.length pc) l.length pc (l.flatMap eY.cells))) _ ⟨0,rfl,s0,s2,s3,s6,s7,rfl,rfl,B1,B8,B14,hR,b40,⟨by omega,hPR⟩⟩ ?_)
   rintro m g41 w41 ⟨i,hme,s0,s2,s3,s6,s7,s59,s60,B1,B8,B14,hR,b41,⟨hi10,hPR⟩⟩
   refine rg (sq (eT s60 rfl) (nx (aF ?_)))
   refine cd rfl (fun c42=>?_) (fun c42=>?_)
   ·
    refine aG (aF (aO (rg ?_)))
    have hi:i<10:=by have:=aBp c42;omega
    refine sq (Ew s59 s60 hi) (aW (pt w12.heap.size (2+i)) rfl (nx (eO (aN (pt w12.heap.size (2+i)) rfl (sq (Fz s6 B8.range rfl) (rG (fst:=[]) (caps:=[]) Gw rfl (dZ (a1 rfl)) (wU rb (pP aB i sE) _ hR (hsh.it i)) ?_))))))
    rintro v43 w43 k43 ⟨rfl,hR⟩
    have B1:=B1.km k43 (fun e=>nrb_B1 e)
    have B8:=B8.km k43 (fun e=>nrb_B8 e)
    have B14:=B14.km k43 (fun e=>nrb_B14 e)
    have hPR:=hPR.km k43 (fun i hi e=>by have:=hOge i hi;omega)
    have b44:=aDs k43 b41 b41.size (fun i (hi:i=rb)=>by omega)
    refine sq (dF rfl) (eP (v:=zi (eK (pP aB i sE))) B14 sizeOf2 rfl rfl rfl (by rw [aDw,Pa];omega) fun w45 B14n O45 z45 =>?_)
    rw [Oa hi] at B14n
    replace B14:=B14n
    have b46:=aS.toBelow O45 b44 b44.size leB14
    have B1:=B1.only O45 nB1_B14
    have B8:=B8.only O45 nB8_B14
    have hR:=hR.only O45 nhR_B14
    have hPR:=hPR.only O45 (fun e=>by have:=hOge _ e;omega)
    exact nl (pI (eO (sq (iK s60 rfl (⟨by omega,by omega⟩)) (aN (zi ((((i:Nat):Int):Int)+(1:Int))) rfl (nl (fC (by omega) ⟨i+1,rfl,s0,s2,s3,s6,s7,s59,(aD7 (Value.int .i64) (by omega)),B1,B8,B14,hR,b46,⟨by omega,hPR⟩⟩))))))
   ·
    refine cI ?_
    repeat (first | refine bN ?_ | refine dC rfl ?_)
    refine dP ?_
    have hie:i=10:=by have:=aBe c42;omega
    subst hie
    rw [ED] at B14
    have B14:Bk w12.heap.size (aZ.cells (kQ (eK (some t)) pb pc l sE)) 29 w41:=B14
    have hxf:aZ.Fit (kQ (eK (some t)) pb pc l sE):=⟨dU _,dU _,dU _,dU _,dU _,dU _,dU _,dU _,dU _,dU _,dU _,hpf,by show l.length<=1000000;omega⟩
    have hxa:aZ.At (kQ (eK (some t)) pb pc l sE) w41:=hPR
    refine aF (rg (sq (AT s7 B14.range rfl) (cE en71 (a1 rfl) (FF (kQ (eK (some t)) pb pc l sE) _ hxf (aZ.At.below hxa (aDt _ _))) ?_)))
    rintro v47 w47 k47 rfl
    have b48:=aDu b41 k47
    have B1:=B1.below k47
    have B14:=B14.below k47
    have hPR:=hPR.below k47
    refine aN (.tuple #[.string (dW (kQ (eK (some t)) pb pc l sE)),zi (cA 270 (bH (kQ (eK (some t)) pb pc l sE)))]) rfl (sq (dT rfl rfl) (sq (dT rfl rfl) (aW (.string (dW (kQ (eK (some t)) pb pc l sE))) rfl (aW (zi (cA 270 (bH (kQ (eK (some t)) pb pc l sE)))) rfl (nx ?_)))))
    refine sQ (_::_::_::_::_::_::_::[]) [(6,79)] [2,3,7] rfl ⟨aA,aA,aA,aD aA,aD aA,aD aA,aA,trivial⟩ (by kernel_rfl) rfl rfl rfl (fun Sd=>⟨
     bF Sd rfl rfl,
     aP [0] Sd rfl fun h=>gC h.1 rfl,
     oW [(1,74)] [] Sd rfl fun _ _ _ h _=>dv aT h.1,
     tW Sd rfl rfl,
     tW Sd rfl s0,
     cK [3,4] Sd rfl fun e _ h=>NF (h.1.1 e) (h.2.1.1 e),
     aP [2,5] Sd rfl fun h=>dA h.1 (fun c=>h.2.1.1 (tn c)),
     trivial⟩) ?_
    rintro g49 w49 k49 ⟨s79,-⟩ ⟨o2,o3,o7,-⟩
    have s2:=o2.trans s2
    have s7:=o7.trans s7
    have b50:=aDu b48 k49
    have B1:=B1.below k49
    have B14:=B14.below k49
    have hPR:=hPR.below k49
    refine cd s79 (fun c52=>?_) (fun c52=>?_)
    ·
     refine rg (sq (bd29 ) (bR (vs:=RV) B1 sizeOf29 s2 rfl rfl rfl fun w53 B1n O53 z53 =>?_))
     replace B1:=B1n
     have b54:=aS.toBelow O53 b50 b50.size leB1
     have hPR:=hPR.only O53 (fun e=>by have:=hOge _ e;omega)
     refine bU (nx (aE ?_))
     refine tY (R:=fun e W=>∃ v,e=.returned v/\Below w.heap.size w W/\((eB b=none->v=.tuple #[.agg (aZ.cells uW).toArray,zi 270])/\(∀ t,eB b=some t->∃ x:aZ,BV t x/\x.Fit/\x.At W/\(∀ i,(Value.slice x.pb x.pools.length x.pc).ownBlock=some i->w.heap.size<=i)/\v=if bH x=true/\dW x=b then .tuple #[.agg (aZ.cells x).toArray,zi 0] else .tuple #[.agg (aZ.cells uW).toArray,zi 270]))) (by exact Co rfl s2 (vZ (cs:=RV) isAgg29 sizeOf29 B1)) ⟨_,rfl,b54,?_⟩
     refine ⟨fun hq=>(by rw [ht] at hq;cases hq),fun q hq=>?_⟩
     rw [ht] at hq;cases hq
     refine ⟨(kQ (eK (some t)) pb pc l sE),⟨l,pb,pc,sE,rfl,hN0⟩,hxf,hPR,fun i hi=>aC7 hwB0 (hOge i hi),?_⟩
     rw [aEd (Vg c52)];exact aD7 (fun q=>Value.tuple #[_,q]) rfl
    ·
     refine aG (rg (sq (AT s7 B14.range rfl) (bR (vs:=aZ.cells (kQ (eK (some t)) pb pc l sE)) B1 sizeOf29 s2 rfl rfl rfl fun w55 B1n O55 z55 =>?_)))
     replace B1:=B1n
     have b56:=aS.toBelow O55 b50 b50.size leB1
     have hPR:=hPR.only O55 (fun e=>by have:=hOge _ e;omega)
     refine bU (nx (aE ?_))
     refine tY (R:=fun e W=>∃ v,e=.returned v/\Below w.heap.size w W/\((eB b=none->v=.tuple #[.agg (aZ.cells uW).toArray,zi 270])/\(∀ t,eB b=some t->∃ x:aZ,BV t x/\x.Fit/\x.At W/\(∀ i,(Value.slice x.pb x.pools.length x.pc).ownBlock=some i->w.heap.size<=i)/\v=if bH x=true/\dW x=b then .tuple #[.agg (aZ.cells x).toArray,zi 0] else .tuple #[.agg (aZ.cells uW).toArray,zi 270]))) (by exact Co rfl s2 (vZ (cs:=aZ.cells (kQ (eK (some t)) pb pc l sE)) isAgg29 sizeOf29 B1)) ⟨_,rfl,b56,?_⟩
     refine ⟨fun hq=>(by rw [ht] at hq;cases hq),fun q hq=>?_⟩
     rw [ht] at hq;cases hq
     refine ⟨(kQ (eK (some t)) pb pc l sE),⟨l,pb,pc,sE,rfl,hN0⟩,hxf,hPR,fun i hi=>aC7 hwB0 (hOge i hi),?_⟩
     rw [aEc (MW c52)];exact aD7 (fun q=>Value.tuple #[_,q]) rfl
structure pM {α:Type} (cells:α->List Value) (sz:Nat) (AtP:α->World->Prop) (own:α->Nat->Prop) (base:Nat) (b:Option Addr) (l:List α) (c:Nat) (W:World):Prop where
 rd:Rd sz W (.slice b l.length c) l.length c (l.flatMap cells)
 at_:∀ x∈l,AtP x W
 bse:∀ i,(Value.slice b l.length c).ownBlock=some i->base<=i
 ows:∀ x∈l,∀ i,own x i->base<=i
 keep:∀ x (A B:World) (M:Nat->Prop),AtP x A->KM M A B->(∀ i,own x i->¬ M i)->AtP x B
section
variable {α:Type} {cells:α->List Value} {sz:Nat} {AtP:α->World->Prop} {own:α->Nat->Prop} {base:Nat} {b:Option Addr} {l:List α} {c:Nat} {A B:World}
theorem pM.km {M:Nat->Prop} (h:pM cells sz AtP own base b l c A) (k:KM M A B) (hM:∀ i,base<=i->¬ M i):pM cells sz AtP own base b l c B:=
 ⟨h.rd.km k (fun i hi=>hM i (h.bse i hi)),fun x hx=>h.keep x A B M (h.at_ x hx) k (fun i hi=>hM i (h.ows x hx i hi)),h.bse,h.ows,h.keep⟩
theorem pM.below (h:pM cells sz AtP own base b l c A) (k:Below A.heap.size A B):pM cells sz AtP own base b l c B:=h.km (aDr (M:=fun _=>False) k) (fun _ _ h=>h)
theorem pM.only (h:pM cells sz AtP own base b l c A) (k:aS q A B) (hq:q<base):pM cells sz AtP own base b l c B:=h.km (aD0 (M:=fun i=>i=q) k rfl) (fun i hi e=>by omega)
end
def NL {α:Type} (rb:Nat) (cells:α->List Value) (sz:Nat) (AtP:α->World->Prop) (own:α->Nat->Prop) (fit:α->Prop) (ex:List α->Prop) (nxt:Option ByteArray->Option ByteArray) (s:Option ByteArray) (w:World) (v:Value) (W:World):Prop:=
 ∃ (b:Option Addr) (l:List α) (c:Nat),v=.slice b l.length c/\l.length=(fG s).toNat/\ex l/\(∀ x∈l,fit x)/\l.length<=1000000/\pM cells sz AtP own w.heap.size b l c W/\(eU nxt s).isSome=true/\dJ rb (eU nxt s) W
def zX {α:Type} (val:Option ByteArray->α) (nxt:Option ByteArray->Option ByteArray) (s:Option ByteArray) (l:List α):Prop:=∀ i (hi:i<l.length),l[i]=val (pP nxt i (aB s))
theorem lX.g {α:Type} {cells:α->List Value} {val:Option ByteArray->α} {fit:α->Prop} {nxt:Option ByteArray->Option ByteArray} {s:Option ByteArray} (h:lX rb cells sz val fit nxt s w v W):NL rb cells sz (fun _ _=>True) pW fit (zX val nxt s) nxt s w v W:=by
 obtain ⟨l,b,c,h1,h2,h3,h4,h5,h6,h7,h8,h9⟩:=h
 exact ⟨b,l,c,h1,h2,h3,h4,h5,⟨h6,fun _ _=>trivial,h7,fun _ _ _ h=>h.elim,fun _ _ _ _ _ _ _=>trivial⟩,h8,h9⟩
theorem Ko.g {α:Type} {cells:α->List Value} {fit:α->Prop} {AtP:α->World->Prop} {own:α->Nat->Prop} {nxt:Option ByteArray->Option ByteArray} {s:Option ByteArray} (h:Ko rb cells sz (fun _ x W=>fit x/\AtP x W) own nxt s w v W)
  (keep:∀ x (A B:World) (M:Nat->Prop),AtP x A->KM M A B->(∀ i,own x i->¬ M i)->AtP x B) (hd:Ck nxt) (ho:bM s):NL rb cells sz AtP own fit (fun _=>True) nxt s w v W:=by
 obtain ⟨l,b,c,h1,h2,h3,h4,h5,h6,h7,h8⟩:=h
 have hall:∀ x∈l,fit x/\AtP x W:=fun x hx=>by
  obtain ⟨i,hi,rfl⟩:=aBa.1 hx
  exact h4 i hi
 exact ⟨b,l,c,h1,h2,trivial,fun x hx=>(hall x hx).1,by rw [h2];exact oS hd ho h7,⟨h3,fun x hx=>(hall x hx).2,h5,fun x hx i hi=>(h6 x hx i hi).1,keep⟩,h7,h8⟩
theorem dI.At.km {x:dI} {M:Nat->Prop} (h:x.At A) (k:KM M A B) (hM:∀ i,zC x i->¬ M i):x.At B:=⟨h.exts.km k (fun i hi=>hM i (.inl hi)),h.refs.km k (fun i hi=>hM i (.inr hi))⟩
theorem bW.At.km {x:bW} {M:Nat->Prop} (h:x.At A) (k:KM M A B) (hM:∀ i,tL x i->¬ M i):x.At B:=⟨h.free.km k (fun i hi=>hM i (.inl hi)),h.uses.km k (fun i hi=>hM i (.inr hi))⟩
theorem Sx (K:Nat->ByteArray) (rb) (s:Option ByteArray) (w) (bx) (wp) (hE:rI K wp) (hbp:Below wp.heap.size wp w) (hwp:wp.heap.size<=rb) (hX:Bk bx [pt rb 0] 57 w) (hxr:bx≠rb) (hB:dJ rb s w) (ho:bM s):gB (·=rb) 46 [.agg [pt rb 0].toArray,.func (.func 47) ([]:List Value).toArray ([pt bx 0]:List Value).toArray] w
  (fun v W=>NL rb dH.cells 19 (fun (x:dH) W=>x.slip.At W) (fun (x:dH) i=>bX x.slip i) (fun (x:dH)=>x.Fit K/\rQ K x.slip.c) (fun _=>True) Gd s w v W) (fun c _=>c=gK/\kT (fun _=>True) Gd s):=by
 refine (Vb rb 47 [] [pt bx 0] Gd (fun _ x W=>(fun (x:dH)=>x.Fit K/\rQ K x.slip.c) x/\(fun (x:dH) W=>x.slip.At W) x W) (fun (x:dH) i=>bX x.slip i) (fun _=>True) (fun W=>Bk bx [pt rb 0] 57 W/\Below wp.heap.size wp W) s w en47 hB ho ⟨hX,hbp⟩ (fun A B M h k hM=>⟨h.1.km k (fun e=>(hM _ e).elim hxr (fun h2=>absurd hX.lt (aDz.2 h2))),k.toBelow h.2 h.2.size (fun i hi=>(hM i hi).elim (fun e=>by omega) (fun e=>aC7 hbp.size e))⟩) iV.dec iV.no (fun _ x A B M h k hM=>⟨h.1,h.2.km k hM⟩) ?_).mono (fun v W _ h=>h.g (fun x A B M h k hM=>h.km k hM) iV ho) (fun c W _ h=>h)
 intro s W hB hs ho hI
 exact (Sw K rb bx s W wp hE hI.2 hwp hI.1 hxr hB ho).mono (fun v W' _ ⟨x,e,h1,h2,h3,h4⟩=>⟨x,e,⟨⟨h1.1,h1.2.1⟩,h1.2.2⟩,h2,h3,h4⟩) (fun c W' _ h=>h)
theorem TU (rb) (s:Option ByteArray) (w) (bx) (hX:Bk bx [pt rb 0] 57 w) (hxr:bx≠rb) (hB:dJ rb s w) (ho:bM s):gB (·=rb) 51 [.agg [pt rb 0].toArray,.func (.func 52) ([]:List Value).toArray ([pt bx 0]:List Value).toArray] w
  (fun v W=>NL rb dI.cells 7 (fun (x:dI) W=>x.At W) zC (fun (x:dI)=>x.Fit) (fun _=>True) FS s w v W) (fun c _=>c=gK/\kT (fun _=>True) FS s):=by
 refine (SF rb 52 [] [pt bx 0] FS (fun _ x W=>(fun (x:dI)=>x.Fit) x/\(fun (x:dI) W=>x.At W) x W) zC (fun _=>True) (fun W=>Bk bx [pt rb 0] 57 W) s w en52 hB ho hX (fun A B M h k hM=>h.km k (fun e=>(hM _ e).elim hxr (fun h2=>absurd hX.lt (aDz.2 h2)))) jX.dec jX.no (fun _ x A B M h k hM=>⟨h.1,dI.At.km h.2 k hM⟩) ?_).mono (fun v W _ h=>h.g (fun x A B M h k hM=>dI.At.km h k hM) jX ho) (fun c W _ h=>h)
 intro s W hB hs ho hI
 exact (UV rb bx s W hI hxr hB ho).mono (fun v W' _ ⟨x,e,h1,h2,h3,h4⟩=>⟨x,e,h1,h2,h3,h4⟩) (fun c W' _ h=>h)
theorem OU (rb) (s:Option ByteArray) (w) (bx) (hX:Bk bx [pt rb 0] 57 w) (hxr:bx≠rb) (hB:dJ rb s w) (ho:bM s):gB (·=rb) 56 [.agg [pt rb 0].toArray,.func (.func 57) ([]:List Value).toArray ([pt bx 0]:List Value).toArray] w
  (fun v W=>NL rb bW.cells 7 (fun (x:bW) W=>x.At W) tL (fun (x:bW)=>x.Fit) (fun _=>True) AF s w v W) (fun c _=>c=gK/\kT (fun _=>True) AF s):=by
 refine (SC rb 57 [] [pt bx 0] AF (fun _ x W=>(fun (x:bW)=>x.Fit) x/\(fun (x:bW) W=>x.At W) x W) tL (fun _=>True) (fun W=>Bk bx [pt rb 0] 57 W) s w en57 hB ho hX (fun A B M h k hM=>h.km k (fun e=>(hM _ e).elim hxr (fun h2=>absurd hX.lt (aDz.2 h2)))) jD.dec jD.no (fun _ x A B M h k hM=>⟨h.1,bW.At.km h.2 k hM⟩) ?_).mono (fun v W _ h=>h.g (fun x A B M h k hM=>bW.At.km h k hM) jD ho) (fun c W _ h=>h)
 intro s W hB hs ho hI
 exact (Rb rb bx s W hI hxr hB ho).mono (fun v W' _ ⟨x,e,h1,h2,h3,h4⟩=>⟨x,e,h1,h2,h3,h4⟩) (fun c W' _ h=>h)
def MJ (s:Option ByteArray):Option ByteArray:=aH 20000 s
def MB (s:Option ByteArray):Option ByteArray:=aB (MJ s)
def Ii (s:Option ByteArray):Option ByteArray:=aB (MB s)
def ZJ (s:Option ByteArray):Option ByteArray:=eU Gd (Ii s)
def dO5 (s:Option ByteArray):Option ByteArray:=eU FS (ZJ s)
def YB (s:Option ByteArray):Option ByteArray:=eU AF (dO5 s)
def YI (s:Option ByteArray):Option ByteArray:=eU lB (YB s)
def YE (s:Option ByteArray):Option ByteArray:=eU kX (YI s)
def YG (s:Option ByteArray):Option ByteArray:=eU jL (YE s)
def Li (s:Option ByteArray):Option ByteArray:=eU nF (YG s)
def Jw (s:Option ByteArray):Option ByteArray:=eU aB (Li s)
def dO12 (s:Option ByteArray):Option ByteArray:=aQ (Jw s)
def Ra (b:ByteArray) (x:aZ):Prop:=∃ t,eB b=some t/\BV t x/\bH x=true/\dW x=b
def Ez (b:ByteArray):Prop:=eB b=none\/∃ t x,eB b=some t/\BV t x/\¬ (bH x=true/\dW x=b)
def EG (s:Option ByteArray):Prop:=MJ s=none\/Ez (jG 20000 s)\/MB s=none\/Ii s=none\/kT (fun _=>True) Gd (Ii s)\/kT (fun _=>True) FS (ZJ s)\/kT (fun _=>True) AF (dO5 s)\/kT (fun s=>lB s=none) lB (YB s)\/kT (fun s=>kX s=none) kX (YI s)\/kT (fun s=>jL s=none) jL (YE s)\/kT (fun s=>nF s=none) nF (YG s)\/kT (fun s=>aB s=none) aB (Li s)\/dO12 s=none
structure SK (s:Option ByteArray) (y:aX):Prop where
 site:Ra (jG 20000 s) y.site
 now:y.now=dD (MJ s)
 next:y.next=dD (MB s)
 jobsN:y.jobs.length=(fG (Ii s)).toNat
 bufsN:y.bufs.length=(fG (ZJ s)).toNat
 poolsN:y.pools.length=(fG (dO5 s)).toNat
 movesN:y.moves.length=(fG (YB s)).toNat
 nodesN:y.nodes.length=(fG (YI s)).toNat
 sharesN:y.shares.length=(fG (YE s)).toNat
 rowsN:y.rows.length=(fG (YG s)).toNat
 faultsN:y.faults.length=(fG (Li s)).toNat
 movesX:zX DF lB (YB s) y.moves
 nodesX:zX CH kX (YI s) y.nodes
 sharesX:zX zQ jL (YE s) y.shares
 rowsX:zX MR nF (YG s) y.rows
 faultsX:zX dD aB (Li s) y.faults
 dirty:y.dirty=iM (Jw s)
structure rJ (base:Nat) (y:aX) (W:World):Prop where
 site:y.site.At W
 siteO:∀ i,(Value.slice y.site.pb y.site.pools.length y.site.pc).ownBlock=some i->base<=i
 jobs:pM dH.cells 19 (fun (x:dH) W=>x.slip.At W) (fun (x:dH) i=>bX x.slip i) base y.jb y.jobs y.jc W
 bufs:pM dI.cells 7 (fun (x:dI) W=>x.At W) zC base y.bb y.bufs y.bc W
 pools:pM bW.cells 7 (fun (x:bW) W=>x.At W) tL base y.pb y.pools y.pc W
 moves:pM eL.cells 6 (fun _ _=>True) pW base y.mb y.moves y.mc W
 nodes:pM cN.cells 3 (fun _ _=>True) pW base y.nb y.nodes y.nc W
 shares:pM dQ.cells 2 (fun _ _=>True) pW base y.sb y.shares y.sc W
 rows:pM lQ.cells 11 (fun _ _=>True) pW base y.rb y.rows y.rc W
 faults:pM gI 1 (fun _ _=>True) pW base y.fb y.faults y.fc W
theorem rJ.km {y:aX} {M:Nat->Prop} (h:rJ base y A) (k:KM M A B) (hM:∀ i,base<=i->¬ M i):rJ base y B:=
 ⟨Rd.km h.site k (fun i hi=>hM i (h.siteO i hi)),h.siteO,h.jobs.km k hM,h.bufs.km k hM,h.pools.km k hM,h.moves.km k hM,h.nodes.km k hM,h.shares.km k hM,h.rows.km k hM,h.faults.km k hM⟩
theorem rJ.at {y:aX} (h:rJ base y W):y.At W:=
 ⟨h.site,h.jobs.rd,h.jobs.at_,h.bufs.rd,h.bufs.at_,h.pools.rd,h.pools.at_,h.moves.rd,h.nodes.rd,h.shares.rd,h.rows.rd,h.faults.rd⟩
theorem pM.weak {α:Type} {cells:α->List Value} {AtP:α->World->Prop} {own:α->Nat->Prop} {l:List α} (h:pM cells sz AtP own base b l c A) (hb:base'<=base):pM cells sz AtP own base' b l c A:=
 ⟨h.rd,h.at_,fun i hi=>aC7 hb (h.bse i hi),fun x hx i hi=>aC7 hb (h.ows x hx i hi),h.keep⟩
structure uR (base:Nat) (x:aZ) (W:World):Prop where
 at_:x.At W
 o:∀ i,(Value.slice x.pb x.pools.length x.pc).ownBlock=some i->base<=i
theorem uR.km {x:aZ} {M:Nat->Prop} (h:uR base x A) (k:KM M A B) (hM:∀ i,base<=i->¬ M i):uR base x B:=⟨Rd.km h.at_ k (fun i hi=>hM i (h.o i hi)),h.o⟩
theorem uR.below {x:aZ} (h:uR base x A) (k:Below A.heap.size A B):uR base x B:=h.km (aDr (M:=fun _=>False) k) (fun _ _ h=>h)
theorem uR.only {x:aZ} (h:uR base x A) (k:aS q A B) (hq:∀ i,(Value.slice x.pb x.pools.length x.pc).ownBlock=some i->i≠q):uR base x B:=⟨Rd.km h.at_ (aD0 (M:=fun i=>i=q) k rfl) (fun i hi e=>hq i hi e),h.o⟩
theorem WV (b) (w) (hb:b.size<=900000):cT 42 [.string b] w fun v W=>∃ (x:aZ) (e:Int),v=.tuple [.agg (aZ.cells x).toArray,zi e].toArray/\(e=0->x.Fit/\Ra b x)/\(e≠0->Ez b)/\uR w.heap.size x W:=by
 refine (Rf b w hb).mono ?_
 rintro v W - ⟨h1,h2⟩
 cases ho:eB b with
 | none=>exact ⟨uW,270,h1 ho,fun h=>absurd h (by decide),fun _=>.inl ho,⟨⟨rfl,aDl _,aDm _,.inl ⟨rfl,rfl,rfl⟩⟩,fun i hi=>(by cases hi)⟩⟩
 | some t=>
  obtain ⟨x,hd,hf,ha,hw,hv⟩:=h2 t ho
  by_cases hc:bH x=true/\dW x=b
  ·rw [aEc hc] at hv
   exact ⟨x,0,hv,fun _=>⟨hf,t,ho,hd,hc.1,hc.2⟩,fun h=>absurd rfl h,⟨ha,hw⟩⟩
  ·rw [aEd hc] at hv
   exact ⟨uW,270,hv,fun h=>absurd h (by decide),fun _=>.inr ⟨t,x,ho,hd,hc⟩,⟨⟨rfl,aDl _,aDm _,.inl ⟨rfl,rfl,rfl⟩⟩,fun i hi=>(by cases hi)⟩⟩
theorem XM (K:Nat->ByteArray) (rb) (s:Option ByteArray) (w wp) (hE:rI K wp) (hbp:Below wp.heap.size wp w) (hwp:wp.heap.size<=rb) (hB:dJ rb s w) (ho:bM s) (hb9:(jG 20000 s).size<=900000):
  gB (·=rb) 13 [.agg [pt rb 0].toArray] w (fun v w'=>∃ y:aX,v=.agg (aX.cells y).toArray/\y.Fit K/\mS K y/\rJ w.heap.size y w'/\SK s y) (fun c _=>c=gK/\EG s):=by
 have ho1:bM (MJ s):=ho.rdT
 refine aJ (n:=63) func13 rfl ntmps13 (aA1 rfl) (rg (cO (cs:=[pt rb (0)]) rfl rfl fun w1 B1 k1 z1 =>?_))
 have hnrB1:w.heap.size≠rb:=by have:=aEf hB;have:=(aD8 (fun _=>False) w).size;omega
 have nhB_B1:=aC8 hB.lt
 have lkB1_w:=aDl w.heap.size
 have hB:=hB.below k1
 have m2:KM (·=rb) w w1:=aDr k1
 refine eA (cs:=uC) zeroValue41 rfl fun w3 B3 k3 z3 =>?_
 have hnrB3:w1.heap.size≠rb:=by have:=aEf hB;have:=m2.size;omega
 have nhB_B3:=aC8 hB.lt
 have nB1_B3:=aC8 B1.lt
 have lkB3_w:=m2.size
 have hB:=hB.below k3
 have B1:=B1.below k3
 have m4:=m2.below k3
 refine nx ?_
 have hxr:w.heap.size≠rb:=hnrB1
 refine rg (eA (cs:=uC) zeroValue41 rfl fun w5 B5 k5 z5 =>?_)
 have hnrB5:w3.heap.size≠rb:=by have:=aEf hB;have:=m4.size;omega
 have nhB_B5:=aC8 hB.lt
 have nB1_B5:=aC8 B1.lt
 have nB3_B5:=aC8 B3.lt
 have lkB5_w:=m4.size
 have hB:=hB.below k5
 have B1:=B1.below k5
 have B3:=B3.below k5
 have m6:=m4.below k5
 refine nx (rg (sq (dV rfl B1.range rfl) (vY (fst:=[]) (caps:=[]) Jl rfl (dZ (a1 rfl)) (rE rb s _ hB ho) (fun cP7 w7 k7 hP7=>And.intro rfl (And.intro ((m6).next k7 (fun i (hi:i=rb)=>.inl hi)) (Or.inr (Exists.intro cP7 (And.intro rfl (And.intro hP7.1 (.inl hP7.2))))))) ?_)))
 rintro v7 w7 k7 ⟨rfl,hsm1,hB⟩
 have B1:=B1.km k7 (fun e=>hnrB1 e)
 have B3:=B3.km k7 (fun e=>hnrB3 e)
 have B5:=B5.km k7 (fun e=>hnrB5 e)
 have m8:=m6.next k7 (fun i (hi:i=rb)=>.inl hi)
 have hsz9:=m8.size
 have hrb9:=hB.lt
 have hq9_B1:=B1.lt
 have hq9_B3:=B3.lt
 have hq9_B5:=B5.lt
 refine cE en42 (a1 rfl) (WV (jG 20000 s) _ hb9) ?_
 rintro v9 w9 k9 ⟨xs,se,rfl,hsok,hsbad,hsq⟩
 have hB:=hB.below k9
 have B1:=B1.below k9
 have B3:=B3.below k9
 have B5:=B5.below k9
 have m10:=m8.below k9
 have hsqo:=hsq.o
 refine aN (.tuple #[.agg (aZ.cells xs).toArray,zi se]) rfl (sq (dT rfl rfl) (sq (dT rfl rfl) (eA (cs:=RV) zeroValue29 rfl fun w11 B11 k11 z11 =>?_)))
 have hslt:=Rd.lt hsq.at_
 have hnrB11:w9.heap.size≠rb:=by have:=aEf hB;have:=m10.size;omega
 have nhB_B11:=aC8 hB.lt
 have nB1_B11:=aC8 B1.lt
 have nB3_B11:=aC8 B3.lt
 have nB5_B11:=aC8 B5.lt
 have lkB11_w:=m10.size
 have hB:=hB.below k11
 have B1:=B1.below k11
 have B3:=B3.below k11
 have B5:=B5.below k11
 have hsq:=hsq.below k11
 have m12:=m10.below k11
 refine bR (vs:=(aZ.cells xs)) B11 sizeOf29 rfl rfl rfl rfl fun w13 B11n O13 z13 =>?_
 replace B11:=B11n
 have hB:=hB.only O13 nhB_B11
 have B1:=B1.only O13 nB1_B11
 have B3:=B3.only O13 nB3_B11
 have B5:=B5.only O13 nB5_B11
 have hsq:=hsq.only O13 (fun i hi=>by have:=hsqo i hi;have:=hslt i hi;omega)
 have m14:=m12.only O13 (.inr lkB11_w)
 refine aW (zi se) rfl (nx (rg (sq (dV rfl B1.range rfl) (aN (zi se) rfl (sq (eZ rfl rfl) (vY (fst:=[]) (caps:=[]) Ln rfl (dZ (a2 rfl rfl)) (tD rb _ _) (fun cP15 w15 k15 hP15=>And.intro rfl (And.intro ((m14).next k15 (fun i h=>h.elim)) (Or.inr (Exists.intro cP15 (And.intro rfl (And.intro hP15.2 (.inr (.inl (hsbad (aBe hP15.1)))))))))) ?_))))))
 rintro v15 w15 k15 hse
 have hB:=hB.km k15 (fun h=>h)
 have B1:=B1.km k15 (fun h=>h)
 have B3:=B3.km k15 (fun h=>h)
 have B5:=B5.km k15 (fun h=>h)
 have hsq:=hsq.km k15 (fun _ _ h=>h)
 have B11:=B11.km k15 (fun h=>h)
 have m16:=m14.next k15 (fun i h=>h.elim)
 refine nx ?_
 have hzt:=m16.size
 have hrbt:=hB.lt
 have htbt:=B5.lt
 have hlb17:=hB.lt
 have hlb18:=B1.lt
 have hlb19:=B3.lt
 have hlb20:=B5.lt
 have hlb21:=B11.lt
 refine CP (fun c W=>c=gK/\KM (fun i=>i=rb\/i=w3.heap.size) w15 W/\(MB s=none\/Ii s=none)) (eE (V:=_::_::(vE (zi (dD (MJ s))))::_::(vE (zi (dD (MB s))))::_::(fun _ _=>True)::_::(fun _ _=>True)::_::_::(fun _ _=>True)::[]) (M:=fun i=>i=rb\/i=w3.heap.size) (ch:=[2,4,6,8,11]) (L:=[(fun W=>dJ rb (MJ s) W/\Bk w3.heap.size (uC) 41 W),(fun W=>(MB s).isSome=true/\dJ rb (MB s) W/\Bk w3.heap.size (uC) 41 W),(fun W=>(Ii s).isSome=true/\dJ rb (Ii s) W/\Bk w3.heap.size (uC) 41 W),(fun W=>(Ii s).isSome=true/\dJ rb (Ii s) W/\Bk w3.heap.size ([zi xs.nodes,.slice xs.pb xs.pools.length xs.pc,zi xs.band,zi xs.backoff,zi xs.tries,zi xs.rate,zi xs.half,zi xs.qos,zi xs.age,zi xs.old,zi xs.size,zi xs.use,aV,aV,cP,cP,cP,cP,cP,cP,cP,cP,.bool false]) 41 W),(fun W=>(Ii s).isSome=true/\dJ rb (Ii s) W/\Bk w3.heap.size ([zi xs.nodes,.slice xs.pb xs.pools.length xs.pc,zi xs.band,zi xs.backoff,zi xs.tries,zi xs.rate,zi xs.half,zi xs.qos,zi xs.age,zi xs.old,zi xs.size,zi xs.use,zi (dD (MJ s)),aV,cP,cP,cP,cP,cP,cP,cP,cP,.bool false]) 41 W),(fun W=>(Ii s).isSome=true/\dJ rb (Ii s) W/\Bk w3.heap.size ([zi xs.nodes,.slice xs.pb xs.pools.length xs.pc,zi xs.band,zi xs.backoff,zi xs.tries,zi xs.rate,zi xs.half,zi xs.qos,zi xs.age,zi xs.old,zi xs.size,zi xs.use,zi (dD (MJ s)),zi (dD (MB s)),cP,cP,cP,cP,cP,cP,cP,cP,.bool false]) 41 W)]) rfl ⟨aC,aC,aC,aC,aC,aC,fI,aC,fI,aC,aC,fI,trivial⟩ rfl rfl rfl (by intro P hP a b h k;simp only [aC0,aBy,or_false] at hP;rcases hP with rfl | rfl | rfl | rfl | rfl | rfl;exact ⟨aD3 h.1 k,h.2.below k⟩;exact ⟨h.1,aD3 h.2.1 k,h.2.2.below k⟩;exact ⟨h.1,aD3 h.2.1 k,h.2.2.below k⟩;exact ⟨h.1,aD3 h.2.1 k,h.2.2.below k⟩;exact ⟨h.1,aD3 h.2.1 k,h.2.2.below k⟩;exact ⟨h.1,aD3 h.2.1 k,h.2.2.below k⟩)) [] [1,2,3] (by kernel_rfl) rfl rfl (And.intro hB B5) (fun c g W ⟨e,hk,hn⟩=>And.intro rfl (And.intro ((m16).next hk (fun i hi=>hi.elim (fun h=>.inl h) (fun h=>.inr (by omega)))) (Or.inr (Exists.intro c (And.intro rfl (And.intro e (hn.elim (fun h=>.inr (.inr (.inl h))) (fun h=>.inr (.inr (.inr (.inl h))))))))))) (fun Sd=>⟨
  iG 4 Sd rfl fun hT q=>AT q ((B11.km hT (fun e=>e.elim (fun e=>hnrB11 e) nB5_B11.symm)).range) rfl,
  iG 1 Sd rfl fun hT q=>dV q ((B1.km hT (fun e=>e.elim (fun e=>hnrB1 e) nB1_B5)).range) rfl,
  oc 0 [(1,17)] [] rfl rfl rfl (by rintro g1 w1 hT ⟨h1,-⟩ - ⟨hB0,hT0⟩;exact mZ (fst:=[]) (caps:=[]) rfl (dZ (a1 h1)) kB (eC rb (MJ s) w1 hB0 ho1) (fun v W hk ⟨e,h1,h2⟩=>And.intro (aD9 hk (fun _ _ h=>.inl h)) (And.intro e (And.intro h1 (And.intro h2 (Bk.km hT0 hk (fun e=>hnrB5 e)))))) (fun c W hk ⟨e,h1⟩=>⟨e,aD4 hT (aD9 hk (fun _ _ h=>.inl h)),.inl h1⟩)),
  iG 1 Sd rfl fun hT q=>dV q ((B1.km hT (fun e=>e.elim (fun e=>hnrB1 e) nB1_B5)).range) rfl,
  oc 1 [(3,19)] [] rfl rfl rfl (by rintro g1 w1 hT ⟨h3,-⟩ - ⟨hs0,hB0,hT0⟩;exact mZ (fst:=[]) (caps:=[]) rfl (dZ (a1 h3)) kB (eC rb (MB s) w1 hB0 (ho1).rd) (fun v W hk ⟨e,h1,h2⟩=>And.intro (aD9 hk (fun _ _ h=>.inl h)) (And.intro e (And.intro h1 (And.intro h2 (Bk.km hT0 hk (fun e=>hnrB5 e)))))) (fun c W hk ⟨e,h1⟩=>⟨e,aD4 hT (aD9 hk (fun _ _ h=>.inl h)),.inr h1⟩)),
  jA 3 Sd rfl fun q=>vF q,
  oc 2 [(0,16),(5,21)] [] rfl rfl rfl (by rintro g1 w1 hT ⟨h0,h5,-⟩ - ⟨hs0,hB0,hT0⟩;exact RZ (vs:=(aZ.cells xs)) hT0 sizeOf29 h5 h0 rfl rfl (fun W hB9 O z=>And.intro (aD0 O (.inr rfl)) (And.intro True.intro (And.intro hs0 (And.intro (aEa hB0 O (fun e=>hnrB5 e.symm)) hB9))))),
  jA 3 Sd rfl fun q=>zJ q,
  oc 3 [(2,18),(7,22)] [] rfl rfl rfl (by rintro g1 w1 hT ⟨h2,h7,-⟩ - ⟨hs0,hB0,hT0⟩;exact BR hT0 sizeOf2 h7 h2 rfl rfl (fun W hB9 O z=>And.intro (aD0 O (.inr rfl)) (And.intro True.intro (And.intro hs0 (And.intro (aEa hB0 O (fun e=>hnrB5 e.symm)) hB9))))),
  jA 3 Sd rfl fun q=>vO q,
  aP [9] Sd rfl fun h=>wA h.1,
  oc 4 [(4,20),(10,24)] [] rfl rfl rfl (by rintro g1 w1 hT ⟨h4,h10,-⟩ - ⟨hs0,hB0,hT0⟩;exact BR hT0 sizeOf2 h10 h4 rfl rfl (fun W hB9 O z=>And.intro (aD0 O (.inr rfl)) (And.intro True.intro (And.intro hs0 (And.intro (aEa hB0 O (fun e=>hnrB5 e.symm)) hB9))))),
  trivial⟩) ?_
 rintro g22 w22 k22 - ⟨o1,o2,o3,-⟩ ⟨hs22,hB22,hT22⟩
 have s1:g22 1=pt w.heap.size (0):=o1.trans rfl
 have s2:g22 2=pt w1.heap.size (0):=o2.trans rfl
 have s3:g22 3=pt w3.heap.size (0):=o3.trans rfl
 have B1:=B1.km k22 (fun e=>e.elim (fun e=>hnrB1 e) nB1_B5)
 have B3:=B3.km k22 (fun e=>e.elim (fun e=>hnrB3 e) nB3_B5)
 have hsq:=hsq.km k22 (fun i hi e=>by omega)
 have m23:=m16.next k22 (fun i hi=>hi.elim (fun h=>.inl h) (fun h=>.inr (by omega)))
 refine rg (sq (dV s1 B1.range rfl) (sq (Aa s1) ?_))
 have hzj:=m23.size
 have hrbj:=hB22.lt
 have htbj:=hT22.lt
 have hblp:=aDs m23 hbp hbp.size (fun i hi=>by have:i=rb:=hi;omega)
 refine vY (fst:=[]) (caps:=[]) en46 rfl (dZ (a2 rfl rfl)) (Sx K rb (Ii s) _ w.heap.size wp hE hblp hwp B1 hxr hB22 (((ho1).rd).rd)) (fun cP24 w24 k24 hP24=>And.intro rfl (And.intro ((m23).next k24 (fun i (hi:i=rb)=>.inl hi)) (Or.inr (Exists.intro cP24 (And.intro rfl (And.intro hP24.1 (.inr (.inr (.inr (.inr (.inl hP24.2))))))))))) ?_
 rintro v24 w24 k24 ⟨bj,lj,cj,rfl,hlenj,hexj,hfitj,hNj,hQj,hsmj,hB22⟩
 have B1:=B1.km k24 (fun e=>hnrB1 e)
 have B3:=B3.km k24 (fun e=>hnrB3 e)
 have hT22:=hT22.km k24 (fun e=>hnrB5 e)
 have hsq:=hsq.km k24 (fun i hi (e:i=rb)=>by omega)
 have m25:=m23.next k24 (fun i (hi:i=rb)=>.inl hi)
 refine sq (vO s3) (sq (qN rfl) (eP hT22 sizeOf30 rfl rfl rfl rfl fun w26 hT22n O26 z26 =>?_))
 replace hT22:=hT22n
 have hB22:=hB22.only O26 nhB_B5
 have B1:=B1.only O26 nB1_B5
 have B3:=B3.only O26 nB3_B5
 have hsq:=hsq.only O26 (fun i hi=>by have:=hsqo i hi;have:=hslt i hi;omega)
 have hQj:=hQj.only O26 (by omega)
 have m27:=m25.only O26 (.inr lkB5_w)
 refine nx (rg (sq (dV s1 B1.range rfl) (sq (Aa s1) ?_)))
 have hzb:=m27.size
 have hrbb:=hB22.lt
 have htbb:=hT22.lt
 refine vY (fst:=[]) (caps:=[]) en51 rfl (dZ (a2 rfl rfl)) (TU rb (ZJ s) _ w.heap.size B1 hxr hB22 ((((ho1).rd).rd).dec (bJ iV))) (fun cP28 w28 k28 hP28=>And.intro rfl (And.intro ((m27).next k28 (fun i (hi:i=rb)=>.inl hi)) (Or.inr (Exists.intro cP28 (And.intro rfl (And.intro hP28.1 (.inr (.inr (.inr (.inr (.inr (.inl hP28.2)))))))))))) ?_
 rintro v28 w28 k28 ⟨bb,lb,cb,rfl,hlenb,hexb,hfitb,hNb,hQb,hsmb,hB22⟩
 have B1:=B1.km k28 (fun e=>hnrB1 e)
 have B3:=B3.km k28 (fun e=>hnrB3 e)
 have hT22:=hT22.km k28 (fun e=>hnrB5 e)
 have hsq:=hsq.km k28 (fun i hi (e:i=rb)=>by omega)
 have hQj:=hQj.km k28 (fun i hi (e:i=rb)=>by omega)
 have m29:=m27.next k28 (fun i (hi:i=rb)=>.inl hi)
 refine sq (Ch s3) (eP hT22 sizeOf33 rfl rfl rfl rfl fun w30 hT22n O30 z30 =>?_)
 replace hT22:=hT22n
 have hB22:=hB22.only O30 nhB_B5
 have B1:=B1.only O30 nB1_B5
 have B3:=B3.only O30 nB3_B5
 have hsq:=hsq.only O30 (fun i hi=>by have:=hsqo i hi;have:=hslt i hi;omega)
 have hQj:=hQj.only O30 (by omega)
 have hQb:=hQb.only O30 (by omega)
 have m31:=m29.only O30 (.inr lkB5_w)
 refine nx (rg (sq (dV s1 B1.range rfl) (sq (Aa s1) ?_)))
 have hzp:=m31.size
 have hrbp:=hB22.lt
 have htbp:=hT22.lt
 refine vY (fst:=[]) (caps:=[]) en56 rfl (dZ (a2 rfl rfl)) (OU rb (dO5 s) _ w.heap.size B1 hxr hB22 ((((((ho1).rd).rd).dec (bJ iV))).dec (bJ jX))) (fun cP32 w32 k32 hP32=>And.intro rfl (And.intro ((m31).next k32 (fun i (hi:i=rb)=>.inl hi)) (Or.inr (Exists.intro cP32 (And.intro rfl (And.intro hP32.1 (.inr (.inr (.inr (.inr (.inr (.inr (.inl hP32.2))))))))))))) ?_
 rintro v32 w32 k32 ⟨bp,lp,cp,rfl,hlenp,hexp,hfitp,hNp,hQp,hsmp,hB22⟩
 have B1:=B1.km k32 (fun e=>hnrB1 e)
 have B3:=B3.km k32 (fun e=>hnrB3 e)
 have hT22:=hT22.km k32 (fun e=>hnrB5 e)
 have hsq:=hsq.km k32 (fun i hi (e:i=rb)=>by omega)
 have hQj:=hQj.km k32 (fun i hi (e:i=rb)=>by omega)
 have hQb:=hQb.km k32 (fun i hi (e:i=rb)=>by omega)
 have m33:=m31.next k32 (fun i (hi:i=rb)=>.inl hi)
 refine sq (vK s3) (eP hT22 sizeOf34 rfl rfl rfl rfl fun w34 hT22n O34 z34 =>?_)
 replace hT22:=hT22n
 have hB22:=hB22.only O34 nhB_B5
 have B1:=B1.only O34 nB1_B5
 have B3:=B3.only O34 nB3_B5
 have hsq:=hsq.only O34 (fun i hi=>by have:=hsqo i hi;have:=hslt i hi;omega)
 have hQj:=hQj.only O34 (by omega)
 have hQb:=hQb.only O34 (by omega)
 have hQp:=hQp.only O34 (by omega)
 have m35:=m33.only O34 (.inr lkB5_w)
 refine nx (rg (sq (dV s1 B1.range rfl) (sq (Aa s1) ?_)))
 have hzm:=m35.size
 have hrbm:=hB22.lt
 have htbm:=hT22.lt
 refine vY (fst:=[]) (caps:=[]) en60 rfl (dZ (a2 rfl rfl)) ((OT rb (YB s) _ w.heap.size B1 hxr hB22 ((((((((ho1).rd).rd).dec (bJ iV))).dec (bJ jX))).dec (bJ jD))).mono (fun v W _ h=>lX.g h) (fun c W _ h=>h)) (fun cP36 w36 k36 hP36=>And.intro rfl (And.intro ((m35).next k36 (fun i (hi:i=rb)=>.inl hi)) (Or.inr (Exists.intro cP36 (And.intro rfl (And.intro hP36.1 (.inr (.inr (.inr (.inr (.inr (.inr (.inr (.inl hP36.2)))))))))))))) ?_
 rintro v36 w36 k36 ⟨bm,lm,cm,rfl,hlenm,hexm,hfitm,hNm,hQm,hsmm,hB22⟩
 have B1:=B1.km k36 (fun e=>hnrB1 e)
 have B3:=B3.km k36 (fun e=>hnrB3 e)
 have hT22:=hT22.km k36 (fun e=>hnrB5 e)
 have hsq:=hsq.km k36 (fun i hi (e:i=rb)=>by omega)
 have hQj:=hQj.km k36 (fun i hi (e:i=rb)=>by omega)
 have hQb:=hQb.km k36 (fun i hi (e:i=rb)=>by omega)
 have hQp:=hQp.km k36 (fun i hi (e:i=rb)=>by omega)
 have m37:=m35.next k36 (fun i (hi:i=rb)=>.inl hi)
 refine sq (Ca s3) (eP hT22 sizeOf35 rfl rfl rfl rfl fun w38 hT22n O38 z38 =>?_)
 replace hT22:=hT22n
 have hB22:=hB22.only O38 nhB_B5
 have B1:=B1.only O38 nB1_B5
 have B3:=B3.only O38 nB3_B5
 have hsq:=hsq.only O38 (fun i hi=>by have:=hsqo i hi;have:=hslt i hi;omega)
 have hQj:=hQj.only O38 (by omega)
 have hQb:=hQb.only O38 (by omega)
 have hQp:=hQp.only O38 (by omega)
 have hQm:=hQm.only O38 (by omega)
 have m39:=m37.only O38 (.inr lkB5_w)
 refine nx (rg (sq (dV s1 B1.range rfl) (sq (Aa s1) ?_)))
 have hzn:=m39.size
 have hrbn:=hB22.lt
 have htbn:=hT22.lt
 refine vY (fst:=[]) (caps:=[]) en62 rfl (dZ (a2 rfl rfl)) ((OX rb (YI s) _ w.heap.size B1 hxr hB22 ((((((((((ho1).rd).rd).dec (bJ iV))).dec (bJ jX))).dec (bJ jD))).dec (bJ kW))).mono (fun v W _ h=>lX.g h) (fun c W _ h=>h)) (fun cP40 w40 k40 hP40=>And.intro rfl (And.intro ((m39).next k40 (fun i (hi:i=rb)=>.inl hi)) (Or.inr (Exists.intro cP40 (And.intro rfl (And.intro hP40.1 (.inr (.inr (.inr (.inr (.inr (.inr (.inr (.inr (.inl hP40.2))))))))))))))) ?_
 rintro v40 w40 k40 ⟨bn,ln,cn,rfl,hlenn,hexn,hfitn,hNn,hQn,hsmn,hB22⟩
 have B1:=B1.km k40 (fun e=>hnrB1 e)
 have B3:=B3.km k40 (fun e=>hnrB3 e)
 have hT22:=hT22.km k40 (fun e=>hnrB5 e)
 have hsq:=hsq.km k40 (fun i hi (e:i=rb)=>by omega)
 have hQj:=hQj.km k40 (fun i hi (e:i=rb)=>by omega)
 have hQb:=hQb.km k40 (fun i hi (e:i=rb)=>by omega)
 have hQp:=hQp.km k40 (fun i hi (e:i=rb)=>by omega)
 have hQm:=hQm.km k40 (fun i hi (e:i=rb)=>by omega)
 have m41:=m39.next k40 (fun i (hi:i=rb)=>.inl hi)
 refine sq (vU s3) (eP hT22 sizeOf36 rfl rfl rfl rfl fun w42 hT22n O42 z42 =>?_)
 replace hT22:=hT22n
 have hB22:=hB22.only O42 nhB_B5
 have B1:=B1.only O42 nB1_B5
 have B3:=B3.only O42 nB3_B5
 have hsq:=hsq.only O42 (fun i hi=>by have:=hsqo i hi;have:=hslt i hi;omega)
 have hQj:=hQj.only O42 (by omega)
 have hQb:=hQb.only O42 (by omega)
 have hQp:=hQp.only O42 (by omega)
 have hQm:=hQm.only O42 (by omega)
 have hQn:=hQn.only O42 (by omega)
 have m43:=m41.only O42 (.inr lkB5_w)
 refine nx (rg (sq (dV s1 B1.range rfl) (sq (Aa s1) ?_)))
 have hzs:=m43.size
 have hrbs:=hB22.lt
 have htbs:=hT22.lt
 refine vY (fst:=[]) (caps:=[]) en64 rfl (dZ (a2 rfl rfl)) ((Mp rb (YE s) _ w.heap.size B1 hxr hB22 ((((((((((((ho1).rd).rd).dec (bJ iV))).dec (bJ jX))).dec (bJ jD))).dec (bJ kW))).dec (bJ mF))).mono (fun v W _ h=>lX.g h) (fun c W _ h=>h)) (fun cP44 w44 k44 hP44=>And.intro rfl (And.intro ((m43).next k44 (fun i (hi:i=rb)=>.inl hi)) (Or.inr (Exists.intro cP44 (And.intro rfl (And.intro hP44.1 (.inr (.inr (.inr (.inr (.inr (.inr (.inr (.inr (.inr (.inl hP44.2)))))))))))))))) ?_
 rintro v44 w44 k44 ⟨bs,ls,cs,rfl,hlens,hexs,hfits,hNs,hQs,hsms,hB22⟩
 have B1:=B1.km k44 (fun e=>hnrB1 e)
 have B3:=B3.km k44 (fun e=>hnrB3 e)
 have hT22:=hT22.km k44 (fun e=>hnrB5 e)
 have hsq:=hsq.km k44 (fun i hi (e:i=rb)=>by omega)
 have hQj:=hQj.km k44 (fun i hi (e:i=rb)=>by omega)
 have hQb:=hQb.km k44 (fun i hi (e:i=rb)=>by omega)
 have hQp:=hQp.km k44 (fun i hi (e:i=rb)=>by omega)
 have hQm:=hQm.km k44 (fun i hi (e:i=rb)=>by omega)
 have hQn:=hQn.km k44 (fun i hi (e:i=rb)=>by omega)
 have m45:=m43.next k44 (fun i (hi:i=rb)=>.inl hi)
 refine sq (CI s3) (eP hT22 sizeOf37 rfl rfl rfl rfl fun w46 hT22n O46 z46 =>?_)
 replace hT22:=hT22n
 have hB22:=hB22.only O46 nhB_B5
 have B1:=B1.only O46 nB1_B5
 have B3:=B3.only O46 nB3_B5
 have hsq:=hsq.only O46 (fun i hi=>by have:=hsqo i hi;have:=hslt i hi;omega)
 have hQj:=hQj.only O46 (by omega)
 have hQb:=hQb.only O46 (by omega)
 have hQp:=hQp.only O46 (by omega)
 have hQm:=hQm.only O46 (by omega)
 have hQn:=hQn.only O46 (by omega)
 have hQs:=hQs.only O46 (by omega)
 have m47:=m45.only O46 (.inr lkB5_w)
 refine nx (rg (sq (dV s1 B1.range rfl) (sq (Aa s1) ?_)))
 have hzr:=m47.size
 have hrbr:=hB22.lt
 have htbr:=hT22.lt
 refine vY (fst:=[]) (caps:=[]) en66 rfl (dZ (a2 rfl rfl)) ((OK rb (YG s) _ w.heap.size B1 hxr hB22 ((((((((((((((ho1).rd).rd).dec (bJ iV))).dec (bJ jX))).dec (bJ jD))).dec (bJ kW))).dec (bJ mF))).dec (bJ mC))).mono (fun v W _ h=>lX.g h) (fun c W _ h=>h)) (fun cP48 w48 k48 hP48=>And.intro rfl (And.intro ((m47).next k48 (fun i (hi:i=rb)=>.inl hi)) (Or.inr (Exists.intro cP48 (And.intro rfl (And.intro hP48.1 (.inr (.inr (.inr (.inr (.inr (.inr (.inr (.inr (.inr (.inr (.inl hP48.2))))))))))))))))) ?_
 rintro v48 w48 k48 ⟨br,lr,cr,rfl,hlenr,hexr,hfitr,hNr,hQr,hsmr,hB22⟩
 have B1:=B1.km k48 (fun e=>hnrB1 e)
 have B3:=B3.km k48 (fun e=>hnrB3 e)
 have hT22:=hT22.km k48 (fun e=>hnrB5 e)
 have hsq:=hsq.km k48 (fun i hi (e:i=rb)=>by omega)
 have hQj:=hQj.km k48 (fun i hi (e:i=rb)=>by omega)
 have hQb:=hQb.km k48 (fun i hi (e:i=rb)=>by omega)
 have hQp:=hQp.km k48 (fun i hi (e:i=rb)=>by omega)
 have hQm:=hQm.km k48 (fun i hi (e:i=rb)=>by omega)
 have hQn:=hQn.km k48 (fun i hi (e:i=rb)=>by omega)
 have hQs:=hQs.km k48 (fun i hi (e:i=rb)=>by omega)
 have m49:=m47.next k48 (fun i (hi:i=rb)=>.inl hi)
 refine sq (Bz s3) (eP hT22 sizeOf38 rfl rfl rfl rfl fun w50 hT22n O50 z50 =>?_)
 replace hT22:=hT22n
 have hB22:=hB22.only O50 nhB_B5
 have B1:=B1.only O50 nB1_B5
 have B3:=B3.only O50 nB3_B5
 have hsq:=hsq.only O50 (fun i hi=>by have:=hsqo i hi;have:=hslt i hi;omega)
 have hQj:=hQj.only O50 (by omega)
 have hQb:=hQb.only O50 (by omega)
 have hQp:=hQp.only O50 (by omega)
 have hQm:=hQm.only O50 (by omega)
 have hQn:=hQn.only O50 (by omega)
 have hQs:=hQs.only O50 (by omega)
 have hQr:=hQr.only O50 (by omega)
 have m51:=m49.only O50 (.inr lkB5_w)
 refine nx (rg (sq (dV s1 B1.range rfl) (sq (dV s1 B1.range rfl) (sq (tX rfl) ?_))))
 have hzf:=m51.size
 have hrbf:=hB22.lt
 have htbf:=hT22.lt
 refine vY (fst:=[]) (caps:=[]) ZU rfl (dZ (a2 rfl rfl)) ((Kv rb (Li s) _ hB22 ((((((((((((((((ho1).rd).rd).dec (bJ iV))).dec (bJ jX))).dec (bJ jD))).dec (bJ kW))).dec (bJ mF))).dec (bJ mC))).dec (bJ rZ))).mono (fun v W _ h=>lX.g h) (fun c W _ h=>h)) (fun cP52 w52 k52 hP52=>And.intro rfl (And.intro ((m51).next k52 (fun i (hi:i=rb)=>.inl hi)) (Or.inr (Exists.intro cP52 (And.intro rfl (And.intro hP52.1 (.inr (.inr (.inr (.inr (.inr (.inr (.inr (.inr (.inr (.inr (.inr (.inl hP52.2)))))))))))))))))) ?_
 rintro v52 w52 k52 ⟨bf,lf,cf,rfl,hlenf,hexf,hfitf,hNf,hQf,hsmf,hB22⟩
 have B1:=B1.km k52 (fun e=>hnrB1 e)
 have B3:=B3.km k52 (fun e=>hnrB3 e)
 have hT22:=hT22.km k52 (fun e=>hnrB5 e)
 have hsq:=hsq.km k52 (fun i hi (e:i=rb)=>by omega)
 have hQj:=hQj.km k52 (fun i hi (e:i=rb)=>by omega)
 have hQb:=hQb.km k52 (fun i hi (e:i=rb)=>by omega)
 have hQp:=hQp.km k52 (fun i hi (e:i=rb)=>by omega)
 have hQm:=hQm.km k52 (fun i hi (e:i=rb)=>by omega)
 have hQn:=hQn.km k52 (fun i hi (e:i=rb)=>by omega)
 have hQs:=hQs.km k52 (fun i hi (e:i=rb)=>by omega)
 have hQr:=hQr.km k52 (fun i hi (e:i=rb)=>by omega)
 have m53:=m51.next k52 (fun i (hi:i=rb)=>.inl hi)
 refine sq (CF s3) (eP hT22 sizeOf39 rfl rfl rfl rfl fun w54 hT22n O54 z54 =>?_)
 replace hT22:=hT22n
 have hB22:=hB22.only O54 nhB_B5
 have B1:=B1.only O54 nB1_B5
 have B3:=B3.only O54 nB3_B5
 have hsq:=hsq.only O54 (fun i hi=>by have:=hsqo i hi;have:=hslt i hi;omega)
 have hQj:=hQj.only O54 (by omega)
 have hQb:=hQb.only O54 (by omega)
 have hQp:=hQp.only O54 (by omega)
 have hQm:=hQm.only O54 (by omega)
 have hQn:=hQn.only O54 (by omega)
 have hQs:=hQs.only O54 (by omega)
 have hQr:=hQr.only O54 (by omega)
 have hQf:=hQf.only O54 (by omega)
 have m55:=m53.only O54 (.inr lkB5_w)
 refine nx (rg (sq (dV s1 B1.range rfl) (vY (fst:=[]) (caps:=[]) EU rfl (dZ (a1 rfl)) (wY rb (Jw s) _ hB22 ((((((((((((((((((ho1).rd).rd).dec (bJ iV))).dec (bJ jX))).dec (bJ jD))).dec (bJ kW))).dec (bJ mF))).dec (bJ mC))).dec (bJ rZ))).dec (bJ cH))) (fun cP56 w56 k56 hP56=>And.intro rfl (And.intro ((m55).next k56 (fun i (hi:i=rb)=>.inl hi)) (Or.inr (Exists.intro cP56 (And.intro rfl (And.intro hP56.1 (.inr (.inr (.inr (.inr (.inr (.inr (.inr (.inr (.inr (.inr (.inr (.inr hP56.2)))))))))))))))))) ?_)))
 rintro v56 w56 k56 ⟨rfl,hsmz,hB22⟩
 have B3:=B3.km k56 (fun e=>hnrB3 e)
 have hT22:=hT22.km k56 (fun e=>hnrB5 e)
 have hsq:=hsq.km k56 (fun i hi (e:i=rb)=>by omega)
 have hQj:=hQj.km k56 (fun i hi (e:i=rb)=>by omega)
 have hQb:=hQb.km k56 (fun i hi (e:i=rb)=>by omega)
 have hQp:=hQp.km k56 (fun i hi (e:i=rb)=>by omega)
 have hQm:=hQm.km k56 (fun i hi (e:i=rb)=>by omega)
 have hQn:=hQn.km k56 (fun i hi (e:i=rb)=>by omega)
 have hQs:=hQs.km k56 (fun i hi (e:i=rb)=>by omega)
 have hQr:=hQr.km k56 (fun i hi (e:i=rb)=>by omega)
 have hQf:=hQf.km k56 (fun i hi (e:i=rb)=>by omega)
 have m57:=m55.next k56 (fun i (hi:i=rb)=>.inl hi)
 refine sq (Bt s3) (eP hT22 sizeOf4 rfl rfl rfl rfl fun w58 hT22n O58 z58 =>?_)
 replace hT22:=hT22n
 have B3:=B3.only O58 nB3_B5
 have hsq:=hsq.only O58 (fun i hi=>by have:=hsqo i hi;have:=hslt i hi;omega)
 have hQj:=hQj.only O58 (by omega)
 have hQb:=hQb.only O58 (by omega)
 have hQp:=hQp.only O58 (by omega)
 have hQm:=hQm.only O58 (by omega)
 have hQn:=hQn.only O58 (by omega)
 have hQs:=hQs.only O58 (by omega)
 have hQr:=hQr.only O58 (by omega)
 have hQf:=hQf.only O58 (by omega)
 have m59:=m57.only O58 (.inr lkB5_w)
 refine nx (rg (sq (BH s3 hT22.range rfl) (bR (vs:=[zi xs.nodes,.slice xs.pb xs.pools.length xs.pc,zi xs.band,zi xs.backoff,zi xs.tries,zi xs.rate,zi xs.half,zi xs.qos,zi xs.age,zi xs.old,zi xs.size,zi xs.use,zi (dD (MJ s)),zi (dD (MB s)),.slice bj lj.length cj,.slice bb lb.length cb,.slice bp lp.length cp,.slice bm lm.length cm,.slice bn ln.length cn,.slice bs ls.length cs,.slice br lr.length cr,.slice bf lf.length cf,.bool (iM (Jw s))]) B3 sizeOf41 s2 rfl rfl rfl fun w60 B3n O60 z60 =>?_)))
 replace B3:=B3n
 have hsq:=hsq.only O60 (fun i hi=>by have:=hsqo i hi;have:=hslt i hi;omega)
 have hQj:=hQj.only O60 (by omega)
 have hQb:=hQb.only O60 (by omega)
 have hQp:=hQp.only O60 (by omega)
 have hQm:=hQm.only O60 (by omega)
 have hQn:=hQn.only O60 (by omega)
 have hQs:=hQs.only O60 (by omega)
 have hQr:=hQr.only O60 (by omega)
 have hQf:=hQf.only O60 (by omega)
 have m61:=m59.only O60 (.inr lkB3_w)
 refine nx (aE ?_)
 have hend:=m61.size
 have hbz0:w.heap.size<=w7.heap.size:=hsz9
 exact tY (rW rfl s2 (vZ (cs:=aX.cells (⟨xs,dD (MJ s),dD (MB s),bj,cj,lj,bb,cb,lb,bp,cp,lp,bm,cm,lm,bn,cn,ln,bs,cs,ls,br,cr,lr,bf,cf,lf,iM (Jw s)⟩:aX)) isAgg41 sizeOf41 B3)) ⟨m61,.inl ⟨_,rfl,(⟨xs,dD (MJ s),dD (MB s),bj,cj,lj,bb,cb,lb,bp,cp,lp,bm,cm,lm,bn,cn,ln,bs,cs,ls,br,cr,lr,bf,cf,lf,iM (Jw s)⟩:aX),rfl,⟨(hsok (aBp hse)).1,bZ _,bZ _,fun j hj=>(hfitj j hj).1,hNj,hfitb,hNb,hfitp,hNp,hfitm,hNm,hfitn,hNn,hfits,hNs,hfitr,hNr,hfitf,hNf⟩,fun j hj=>(hfitj j hj).2,⟨hsq.at_,fun i hi=>aC7 hbz0 (hsq.o i hi),hQj.weak hzj,hQb.weak hzb,hQp.weak hzp,hQm.weak hzm,hQn.weak hzn,hQs.weak hzs,hQr.weak hzr,hQf.weak hzf⟩,⟨(hsok (aBp hse)).2,rfl,rfl,hlenj,hlenb,hlenp,hlenm,hlenn,hlens,hlenr,hlenf,hexm,hexn,hexs,hexr,hexf,rfl⟩⟩⟩
theorem rJ.below {y:aX} (h:rJ base y A) (k:Below A.heap.size A B):rJ base y B:=h.km (aDr (M:=fun _=>False) k) (fun _ _ h=>h)
theorem rJ.only {y:aX} (h:rJ base y A) (k:aS q A B) (hq:q<base):rJ base y B:=h.km (aD0 (M:=fun i=>i=q) k rfl) (fun i hi e=>by omega)
abbrev BO:List Value:=[zi (0),.slice none 0 0,zi (0),zi (0),zi (0),zi (0),zi (0),zi (0),zi (0),zi (0),zi (0),zi (0),zi (0),zi (0),.slice none 0 0,.slice none 0 0,.slice none 0 0,.slice none 0 0,.slice none 0 0,.slice none 0 0,.slice none 0 0,.slice none 0 0,.bool false]
def NZ (K:Nat->ByteArray) (s:ByteArray):Prop:=eB s=none\/∃ t,eB s=some t/\(EG (some t)\/∃ y:aX,SK (some t) y/\y.Fit K/\¬ (bG K y=true/\uE K y=s))
def GetD (s:ByteArray) (y:aX):Prop:=∃ t,eB s=some t/\SK (some t) y
def aAd (K:Nat->ByteArray) (s:ByteArray) (v:Value) (W:World):Prop:=
 (v=.tuple #[.agg BO.toArray,zi 290]/\NZ K s)\/∃ y:aX,v=.tuple #[.agg (aX.cells y).toArray,zi 0]/\y.Fit K/\mS K y/\y.At W/\bG K y=true/\uE K y=s/\GetD s y
theorem Vf {n:Nat} {g:Nat->Value} {w:World} {dd:Option Tmp} {ty:TypeId} {pos:String} {aft:Array Edge} {gd:Option (Nat × Bool)} {x0:Operand} {a1:Nat} {o1:Nat} (h0:ev n g x0=pt a1 o1):aL n g ⟨dd,.build 57 #[(0,x0)],ty,pos,aft,gd⟩ w (.agg [pt a1 o1].toArray):=
 iA (ps:=[(0,x0)]) (by simp only [aC3,aDb,h0];kernel_rfl)
theorem Xo {c:Bool} (h:(!decide ((cA 290 c:Int)=(0:Int)))=false):c=true:=by cases c with | true=>rfl | false=>simp [cA] at h
theorem RG (K:Nat->ByteArray) (s) (w) (hE:rI K w) (hPh:nE w) (hs:s.size<=900000):cT 5 [.string s] w (aAd K s):=by
 refine qV (n:=35) func5 rfl ntmps5 (aA1 rfl) (Ae (rg (eA (cs:=uC) zeroValue41 rfl fun w1 B1 k1 z1 =>?_)))
 have leB1:=aDl w.heap.size
 refine eA (cs:=[aV]) zeroValue42 rfl fun w2 B2 k2 z2 =>?_
 have nB1_B2:=aC8 B1.lt
 have leB2:=k1.size
 have b3:=aDu k1 k2
 have B1:=B1.below k2
 refine nx (rg (aN (.string s) rfl (cE en10 (a1 rfl) (Kw s _ (by omega)) ?_)))
 rintro _ w4 k4 rfl
 have b5:=aDu b3 k4
 have B1:=B1.below k4
 have B2:=B2.below k4
 refine aN (.tuple #[.string ((eB s).getD ⟨#[]⟩),.bool ((eB s).isSome)]) rfl (sq (dT rfl rfl) (sq (dT rfl rfl) (aW (.string ((eB s).getD ⟨#[]⟩)) rfl (aW (.bool ((eB s).isSome)) rfl (nx (aF ?_))))))
 rcases DN (eB s) with ht | ⟨t,ht⟩
 ·
  refine rg (aN (.bool false) ((rfl).trans (aD7 Value.bool (show (eB s).isSome=false from by simp [ht]))) (sq (Qi rfl) (nx (Ns rfl (rg (sq (Qh ) (bR (vs:=uC) B1 sizeOf41 rfl rfl rfl rfl fun w6 B1n O6 z6 =>?_)))))))
  replace B1:=B1n
  have b7:=aS.toBelow O6 b5 b5.size leB1
  have B2:=B2.only O6 nB1_B2.symm
  refine eP B2 sizeOf42 rfl rfl rfl rfl fun w8 B2n O8 z8 =>?_
  replace B2:=B2n
  have b9:=aS.toBelow O8 b7 b7.size leB2
  have B1:=B1.only O8 nB1_B2
  exact nx (aE (sN ⟨_,BG rfl rfl (vZ (cs:=uC) isAgg41 sizeOf41 B1) rfl (VA isAgg42 B2 rfl),_,rfl,b9,.inl ⟨rfl,.inl ht⟩⟩))
 ·
  refine rg (aN (.bool true) ((rfl).trans (aD7 Value.bool (show (eB s).isSome=true from by simp [ht]))) (sq (PN rfl) (nx (rM rfl (aG ?_)))))
  have hpanF:∀ c (g:Nat->Value) B,g 2=pt w.heap.size 0->g 3=pt w1.heap.size 0->c=gK->EG (some t)->Bk w.heap.size uC 41 B->Bk w1.heap.size [aV] 42 B->Below w.heap.size w B->bodyPostM (FR none) 0 prog Tryz.f5 (fun e w'=>∃ v,e=.returned v/\Below w.heap.size w w'/\aAd K s v w') (.panic c) (fr 35 [Sp 11 w.heap.size w1.heap.size] g) B:=by
   rintro c g B h2 h3 rfl hab hY hX hbB
   refine TC (S:=fun w'=>KM (fun i=>i=w.heap.size\/i=w1.heap.size) B w'/\Bk w.heap.size uC 41 w'/\Bk w1.heap.size [zi 290] 42 w') Yh ?_ ?_
   ·refine aC4 (Vw _ _ 290 B hY hX (by omega)) ?_
    rintro e9 u w2 ⟨rfl,rfl,h4,h5,h6⟩
    exact ⟨rfl,rfl,h4,h5,h6⟩
   ·rintro w2 ⟨h4,h5,h6⟩
    exact ⟨_,BG rfl h2 (vZ (cs:=uC) isAgg41 sizeOf41 h5) h3 (VA isAgg42 h6 rfl),_,rfl,aDs h4 hbB hbB.size (fun i hi=>by omega),.inl ⟨rfl,.inr ⟨t,ht,.inl hab⟩⟩⟩
  refine rg (sq (mf2 rfl rfl) (JS (f:=11) (b:=w.heap.size) (c:=w1.heap.size) rfl (nx (rg (aN (.string t) ((rfl).trans (aD7 Value.string (show (eB s).getD ⟨#[]⟩=t from by simp [ht]))) ?_)))))
  have B1p:=B1.lt
  have B2p:=B2.lt
  have hz12:=b5.size
  refine cE YS (a1 rfl) (JY t _) ?_
  rintro v10 w10 k10 ⟨rb,rfl,hrb0,hR⟩
  have b11:=aDu b5 k10
  have B1:=B1.below k10
  have B2:=B2.below k10
  have hbt:=BA ht
  have hst:bM (some t):=fun q hq=>by cases hq;omega
  have hb9:(jG 20000 (some t)).size<=900000:=aC7 (GH 20000 (some t) rfl) (by omega)
  refine sq (Vf rfl) ?_
  have hrl:=hR.lt
  have hz13:=b11.size
  refine vY (fst:=[]) (caps:=[]) en13 rfl (dZ (a1 rfl)) (XM K rb (some t) _ w hE b11 (by omega) hR hst hb9) (fun cP12 w12 k12 hP12=>hpanF _ _ _ rfl rfl hP12.1 hP12.2 (B1.km k12 (fun e=>by omega)) (B2.km k12 (fun e=>by omega)) (aDs k12 b11 b11.size (fun i hi=>by have:i=rb:=hi;omega))) ?_
  rintro v12 w12 k12 ⟨y,rfl,hyf,hyw,hYQ,hyd⟩
  have B1:=B1.km k12 (fun e=>by have:_=rb:=e;omega)
  have B2:=B2.km k12 (fun e=>by have:_=rb:=e;omega)
  have b13:=aDs k12 b11 b11.size (fun i hi=>by have:i=rb:=hi;omega)
  refine bR (vs:=(aX.cells y)) B1 sizeOf41 rfl rfl rfl rfl fun w14 B1n O14 z14 =>?_
  replace B1:=B1n
  have b15:=aS.toBelow O14 b13 b13.size leB1
  have B2:=B2.only O14 nB1_B2.symm
  have hYQ:=hYQ.only O14 (by omega)
  refine nx (aF (rg (sq (BH rfl B1.range rfl) (cE en7 (a1 rfl) (Km K y _ (hE.below b15) (hPh.below b15) hyf hyw hYQ.at) ?_))))
  rintro _ w16 k16 rfl
  have b17:=aDu b15 k16
  have B1:=B1.below k16
  have B2:=B2.below k16
  have hYQ:=hYQ.below k16
  refine aN (.tuple #[.string (uE K y),zi (cA 290 (bG K y))]) rfl (sq (dT rfl rfl) (sq (dT rfl rfl) (aW (.string (uE K y)) rfl (aW (zi (cA 290 (bG K y))) rfl (nx ?_)))))
  refine sQ (_::_::_::_::_::_::_::[]) [(6,32)] [2,3] rfl ⟨aA,aA,aA,aD aA,aD aA,aD aA,aA,trivial⟩ (by kernel_rfl) rfl rfl rfl (fun Sd=>⟨
   bF Sd rfl rfl,
   aP [0] Sd rfl fun h=>gC h.1 rfl,
   oW [(1,27)] [] Sd rfl fun _ _ _ h _=>dv aT h.1,
   tW Sd rfl rfl,
   tW Sd rfl rfl,
   cK [3,4] Sd rfl fun e _ h=>NF (h.1.1 e) (h.2.1.1 e),
   aP [2,5] Sd rfl fun h=>dA h.1 (fun c=>h.2.1.1 (tn c)),
   trivial⟩) ?_
  rintro g18 w18 k18 ⟨s32,-⟩ ⟨o2,o3,-⟩
  have s2:g18 2=pt w.heap.size (0):=o2.trans rfl
  have s3:g18 3=pt w1.heap.size (0):=o3.trans rfl
  have b19:=aDu b17 k18
  have B1:=B1.below k18
  have B2:=B2.below k18
  have hYQ:=hYQ.below k18
  refine cd s32 (fun c20=>?_) (fun c20=>?_)
  ·
   refine rg (sq (Qh ) (bR (vs:=uC) B1 sizeOf41 s2 rfl rfl rfl fun w21 B1n O21 z21 =>?_))
   replace B1:=B1n
   have b22:=aS.toBelow O21 b19 b19.size leB1
   have B2:=B2.only O21 nB1_B2.symm
   refine eP B2 sizeOf42 s3 rfl rfl rfl fun w23 B2n O23 z23 =>?_
   replace B2:=B2n
   have b24:=aS.toBelow O23 b22 b22.size leB2
   have B1:=B1.only O23 nB1_B2
   refine nx (aE ?_)
   refine OW (S:=fun w'=>KM (fun i=>i=w.heap.size\/i=w1.heap.size) w23 w'/\Bk w.heap.size uC 41 w'/\Bk w1.heap.size [zi (290)] 42 w') Yh ?_ ?_
   ·refine aC4 (Kc _ _ _ _ _ B1 B2 (by omega)) ?_
    rintro e9 u w8 ⟨rfl,rfl,h4,h5,h6⟩
    exact ⟨rfl,rfl,h4,h5,h6⟩
   ·rintro w8 ⟨h4,h5,h6⟩
    have hgo:¬ (bG K y=true/\uE K y=s):=by rintro ⟨h7,h8⟩;have h9:=c20;rw [h7,h8] at h9;simp [cA] at h9
    exact ⟨_,BG rfl s2 (vZ (cs:=uC) isAgg41 sizeOf41 h5) s3 (VA isAgg42 h6 rfl),_,rfl,aDs h4 b24 b24.size (fun i hi=>by omega),.inl ⟨rfl,.inr ⟨t,ht,.inr ⟨y,hyd,hyf,hgo⟩⟩⟩⟩
  ·
   refine aG (rg (sq (BH s2 B1.range rfl) (bR (vs:=(aX.cells y)) B1 sizeOf41 s2 rfl rfl rfl fun w25 B1n O25 z25 =>?_)))
   replace B1:=B1n
   have b26:=aS.toBelow O25 b19 b19.size leB1
   have B2:=B2.only O25 nB1_B2.symm
   have hYQ:=hYQ.only O25 (by omega)
   refine eP B2 sizeOf42 s3 rfl rfl rfl fun w27 B2n O27 z27 =>?_
   replace B2:=B2n
   have b28:=aS.toBelow O27 b26 b26.size leB2
   have B1:=B1.only O27 nB1_B2
   have hYQ:=hYQ.only O27 (by omega)
   refine nx (aE ?_)
   refine OW (S:=fun w'=>KM (fun i=>i=w.heap.size\/i=w1.heap.size) w27 w'/\Bk w.heap.size (aX.cells y) 41 w'/\Bk w1.heap.size [aV] 42 w') Yh ?_ ?_
   ·refine aC4 (Kc _ _ _ _ _ B1 B2 (by omega)) ?_
    rintro e9 u w8 ⟨rfl,rfl,h4,h5,h6⟩
    exact ⟨rfl,rfl,h4,h5,h6⟩
   ·rintro w8 ⟨h4,h5,h6⟩
    have hq:=hYQ.km h4 (fun i hi h=>by omega)
    have hgo:bG K y=true/\uE K y=s:=by have h9:=c20;simp only [aA7] at h9;exact ⟨Xo h9.1,by simpa using h9.2⟩
    exact ⟨_,BG rfl s2 (vZ (cs:=(aX.cells y)) isAgg41 sizeOf41 h5) s3 (VA isAgg42 h6 rfl),_,rfl,aDs h4 b28 b28.size (fun i hi=>by omega),.inr ⟨y,rfl,hyf,hyw,hq.at,hgo.1,hgo.2,t,ht,hyd⟩⟩
def Xu:Go.Shelf.Ren:=⟨fun | 212=>219 | 263=>240 | 264=>241 | n=>n,fun | 46=>208 | 53=>104 | 51=>324 | 146=>325 | 148=>327 | n=>n,fun | n=>n⟩
theorem Tk: Go.Proofs.Lays.n212 prog Xu:={
 mixed:=by kernel_rfl
 f212:=func219.trans (aD7 some (by kernel_rfl))
 f263:=func240.trans (aD7 some (by kernel_rfl))
 f264:=func241.trans (aD7 some (by kernel_rfl))
 t46:=underlying208
 a46:=isAgg208
 z46:=sizeOf208
 v46:=zeroValue208
 t51:=underlying324
 a51:=isAgg324
 z51:=sizeOf324
 v51:=zeroValue324
 t53:=underlying104
 a53:=isAgg104
 z53:=sizeOf104
 v53:=zeroValue104
 t146:=underlying325
 a146:=isAgg325
 z146:=sizeOf325
 v146:=zeroValue325
 t148:=underlying327
 a148:=isAgg327
 z148:=sizeOf327
 v148:=zeroValue327 }
theorem Ty (x y:Nat) (hx:x<18446744073709551616) (hy:y<18446744073709551616) (w:World):cT 219 [.int .u64 x,.int .u64 y] w fun v _=>v=.tuple #[.int .u64 ((x*y / 18446744073709551616:Nat):Int),.int .u64 ((x*y % 18446744073709551616:Nat):Int)]:=
 Dc (Any.bits_Mul Tk x y hx hy w)
end Go.Proofs.YtlfjfopjjbbcoaaGreatDoor
