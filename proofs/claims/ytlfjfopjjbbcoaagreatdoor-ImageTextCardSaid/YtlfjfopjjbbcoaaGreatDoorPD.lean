/-
  A part of the proof of ImageText: walks of its functions and plain laws. Nothing is asked.
-/
import Derived.Test.YtlfjfopjjbbcoaaGreatDoorPC
import Derived.RegionTactic
import Derived.BigRegion
import Derived.Laws.BitsLemmas
import Derived.Laws.Closers25b
import Derived.Laws.Rows
import Derived.Laws.Tables
import Derived.Deep.MidRow
import Derived.Outline
import Derived.Laws.IdiomStrings
set_option linter.all false
set_option autoImplicit true
set_option relaxedAutoImplicit true
namespace Go.Proofs.YtlfjfopjjbbcoaaGreatDoor
open Go.Proofs.Tryz
open Go.RowKit
theorem uD {n:Nat} {g:Nat->Value} {w:World} {dd:Option Tmp} {ty:TypeId} {pos:String} {aft:Array Edge} {gd:Option (Nat × Bool)} {x0 x1 x2:Operand} {a1:Int} {a2:Int} {a3:ByteArray} (h0:ev n g x0=.int .u8 a1) (h1:ev n g x1=zi a2) (h2:ev n g x2=.string a3):aL n g ⟨dd,.build 220 #[(0,x0),(3,x1),(2,x2)],ty,pos,aft,gd⟩ w (.agg [.int .u8 a1,.string (⟨#[]⟩),.string a3,zi a2,.bool false].toArray):=
 iA (ps:=[(0,x0),(3,x1),(2,x2)]) (by simp only [aC3,aDb,h0,h1,h2];kernel_rfl)
theorem pT {g:Nat->Value} {ty:TypeId} {a1:Int} {a2:Int} (h0:ev n g x0=.int .u8 a1) (h1:ev n g x1=zi a2):aL n g ⟨dd,.build 220 #[(0,x0),(3,x1)],ty,pos,aft,gd⟩ w (.agg [.int .u8 a1,.string (⟨#[]⟩),.string (⟨#[]⟩),zi a2,.bool false].toArray):=
 iA (ps:=[(0,x0),(3,x1)]) (by simp only [aC3,aDb,h0,h1];kernel_rfl)
theorem uT {n:Nat} {g:Nat->Value} {w:World} {dd:Option Tmp} {ty:TypeId} {pos:String} {aft:Array Edge} {gd:Option (Nat × Bool)} {x0 x1:Operand} {a1:Int} {a2:ByteArray} (h0:ev n g x0=.int .u8 a1) (h1:ev n g x1=.string a2):aL n g ⟨dd,.build 220 #[(0,x0),(1,x1)],ty,pos,aft,gd⟩ w (.agg [.int .u8 a1,.string a2,.string (⟨#[]⟩),aV,.bool false].toArray):=
 iA (ps:=[(0,x0),(1,x1)]) (by simp only [aC3,aDb,h0,h1];kernel_rfl)
section
variable {r:Option Nat} {n:Nat} {ds:List Deferred} {g:Nat->Value} {w:World} {Q:Exit->Act->World->Prop} {l:List Oper} {ops:Array Oper} {ty:TypeId} {pos:String} {aft:Array Edge} {d:Tmp} {x y:Operand} {t:TypeId}
theorem Rv {k1 k2 k3 a1 a2 a3:Int} {b1 b2 b3:Bool} (hx:ev n g x=.agg [.int .u8 k1,.string s1,.string p1,zi a1,.bool b1].toArray) (hy:ev n g y=.agg [.int .u8 k2,.string s2,.string p2,zi a2,.bool b2].toArray) (hz:ev n g z=.agg [.int .u8 k3,.string s3,.string p3,zi a3,.bool b3].toArray)
  (h:∀ w',Bk w.heap.size [.int .u8 k1,.string s1,.string p1,zi a1,.bool b1,.int .u8 k2,.string s2,.string p2,zi a2,.bool b2,.int .u8 k3,.string s3,.string p3,zi a3,.bool b3] 220 w'->Below w.heap.size w w'->w'.heap.size=w.heap.size+1->dY r ops Q l (fr n ds (up g d (.slice (some ⟨w.heap.size,0,none⟩) 3 3))) w'):
  dY r ops Q (⟨some d,.buildSlice 94 3 #[(0,x),(1,y),(2,z)],ty,pos,aft,none⟩::l) (fr n ds g) w:=by
 obtain ⟨i0,hi0,hz0,hz1,hz2⟩:=info_parts mW
 refine Lr (sz:=0) (ps:=[(0,x),(1,y),(2,z)]) (ie:=i0) underlying94 hi0 hz0 (by rw [hz1];rfl) (by rw [hz1];rfl) ?_ h
 rw [hz1]
 simp only [aC3,aDb,hx,hy,hz]
 kernel_rfl
theorem Xa {ie:TypeInfo} (hu:prog.underlying t=some (.slice e)) (hi0:prog.info? e=some ie) (hs:ev n g x=v) (hown:w.ownsRow base e sz v k xs) (hx:ev n g y=cP)
  (h:dY r ops Q l (fr n ds (up g d v)) w):dY r ops Q (⟨some d,.call ⟨.builtin .append,#[x,y],#[t,t]⟩,ty,pos,aft,none⟩::l) (fr n ds g) w:=by
 refine eM rfl fun K hK=>?_
 have hr:(execOp (ev n g) ⟨some d,.call ⟨.builtin .append,#[x,y],#[t,t]⟩,ty,pos,aft,none⟩).run prog w=.ok (.value v) w:=by
  have hsrc:Src prog ie.size t (cP) 0 [] w:=Rd.src hu (aEe ie.size w) (fun u hu=>nomatch hu)
  have hap:∀ ty,(Builtin.append_ #[t,t] ty #[v,cP]).run prog w=.ok v w:=fun ty=>by
   obtain ⟨_,⟨rfl,rfl⟩ | ⟨b,cap,cur,rfl,_,_,hc,_⟩⟩:=hown
   ·simp [Builtin.append_,run_underlying hu,sizeOf,typeInfo,hi0,hsrc.len,hsrc.cells,storeCells]
   ·simp [Builtin.append_,run_underlying hu,sizeOf,typeInfo,hi0,hsrc.len,hsrc.cells,storeCells,hc]
  unfold execOp
  simp only [resolve,invoke,builtin,aDe,aDh,aBw,aCe,aC3,aDb,hs,hx,hap]
 exact iC (by rw [bV];exact hr) (by rw [fF];exact hK _ _ h)
theorem XY {base e sz bytes:Nat} (hu:prog.underlying t=some (.slice e)) (hi:(prog.info? e).map (fun i=>(i.zero,i.size,i.bytes))=some (some z,sz,bytes)) (hz:z.cells.size=sz) (hp:0<sz)
  (hs:ev n g x=v) (hown:w.ownsRow base e sz v k xs) (hx:ev n g y=vy) (hr:Rd sz w vy m c news) (h1:news.all (·.oneCell')=true) (b1:k+m<=maxLen) (b2:(k+m)*bytes<=140737488355328) (b3:base<=w.heap.size)
  (h:∀ v' w',w'.ownsRow base e sz v' (k+m) (xs++news)->KM (fun i=>v.ownBlock=some i) w w'->(v'.ownBlock=v.ownBlock\/v'.ownBlock=some w.heap.size)->dY r ops Q l (fr n ds (up g d v')) w'):
  dY r ops Q (⟨some d,.call ⟨.builtin .append,#[x,y],#[t,t]⟩,ty,pos,aft,none⟩::l) (fr n ds g) w:=by
 obtain ⟨h3,h4,h5,⟨rfl,rfl,rfl⟩ | ⟨b,o,rfl,hg,hrr⟩⟩:=hr
 ·have hn:news=[]:=aAt (by simpa using h3)
  subst hn
  obtain ⟨i0,hi0,_,_,_⟩:=info_parts hi
  exact Xa hu hi0 hs hown hx (h v w (by simpa using hown) (aD8 _ _) (.inl rfl))
 ·exact xZ hu hi hz hp hs hown hx h3 hrr h1 b1 b2 b3 h
end
structure rQ (K:Nat->ByteArray) (x:eW):Prop where
 w1:x.cap≠0->(K 1).size<=1000
 w2:x.inn≠0->(K 2).size<=1000
 w3:x.out≠0->(K 3).size<=1000
 w5:x.drop≠[]->(K 5).size<=1000
 w6:x.use≠[]->(K 6).size<=1000
def lS (x:eW):List dN:=[⟨1,⟨#[]⟩,x.pool,x.cap,false⟩,⟨2,⟨#[]⟩,⟨#[]⟩,x.inn,false⟩,⟨3,⟨#[]⟩,⟨#[]⟩,x.out,false⟩]
def Dp (s:ByteArray):dN:=⟨5,s,⟨#[]⟩,0,false⟩
def UI (s:ByteArray):dN:=⟨6,s,⟨#[]⟩,0,false⟩
def iD (x:eW):List dN:=gS (lS x)++x.make++x.drop.map Dp++x.use.map UI
def uZ (K:Nat->ByteArray) (d:dN):ByteArray:=if lN K d=true then ⟨(oL K d).toArray⟩ else ⟨#[]⟩
def cX (K:Nat->ByteArray) (x:eW):ByteArray:=if bL K x=true then oU (pD x::(iD x).map (uZ K)) ⟨#[10]⟩ else ⟨#[]⟩
theorem BL {K:Nat->ByteArray} {x:eW} (hx:mX K x) (ho:qM K x) (hw:rQ K x):∀ d∈iD x,fD K d:=by
 intro d hd
 unfold iD at hd
 simp only [aCv,aDc] at hd
 rcases hd with ((hd | hd) | ⟨s,hs,rfl⟩) | ⟨s,hs,rfl⟩
 ·unfold gS lS at hd
  rw [aCn] at hd
  obtain ⟨hm,hz⟩:=hd
  have hz:d.size≠0:=by unfold lZ at hz;simpa using hz
  have z1:(⟨#[]⟩:ByteArray).size<=1000:=by decide
  have k1:1<=255:=by decide
  have k2:2<=255:=by decide
  have k3:3<=255:=by decide
  have:=ho.cap;have:=ho.inn;have:=ho.out;have:=ho.pool
  simp only [aC0,aBy,or_false] at hm
  rcases hm with rfl | rfl | rfl
  ·exact ⟨k1,fun _ _=>hw.w1 hz,z1,by show x.pool.size<=1000;omega,by show _<=x.cap;omega,by show x.cap<=_;omega⟩
  ·exact ⟨k2,fun _ _=>hw.w2 hz,z1,z1,by show _<=x.inn;omega,by show x.inn<=_;omega⟩
  ·exact ⟨k3,fun _ _=>hw.w3 hz,z1,z1,by show _<=x.out;omega,by show x.out<=_;omega⟩
 ·exact hx.dirs d hd
 ·exact ⟨(by decide:5<=255),fun _ _=>hw.w5 (fun e=>by rw [e] at hs;cases hs),aC7 (ho.drop s hs) (by decide),(by decide:(⟨#[]⟩:ByteArray).size<=1000),(by decide:(-9223372036854775808:Int)<=0),(by decide:(0:Int)<=9223372036854775807)⟩
 ·exact ⟨(by decide:6<=255),fun _ _=>hw.w6 (fun e=>by rw [e] at hs;cases hs),aC7 (ho.use s hs) (by decide),(by decide:(⟨#[]⟩:ByteArray).size<=1000),(by decide:(-9223372036854775808:Int)<=0),(by decide:(0:Int)<=9223372036854775807)⟩
theorem nW (l:List dN):(gS l).length<=l.length:=aA4 _ _
theorem nV {K:Nat->ByteArray} {x:eW} (ho:qM K x):(iD x).length<=15:=by
 have:=nW (lS x)
 have h3:(lS x).length=3:=rfl
 have:=ho.makeN;have:=ho.dropN;have:=ho.useN
 unfold iD
 simp only [aBh,aCj];omega
theorem Mn {K:Nat->ByteArray} {d:dN} (h:fD K d):(uZ K d).size<=100000:=by
 unfold uZ
 split
 ·rename_i hc
  unfold lN at hc
  simp only [aB0,aBq] at hc
  show (oL K d).toArray.size<=_
  rw [aBr];exact AX K d h hc.1
 ·decide
theorem Ct {K:Nat->ByteArray} {x:eW} (hx:mX K x) (ho:qM K x) (hw:rQ K x):∀ s∈pD x::(iD x).map (uZ K),s.size<=100000:=by
 intro s hs
 rcases aC0.1 hs with rfl | hs
 ·exact aC7 (Ik ho) (by decide)
 ·obtain ⟨d,hd,rfl⟩:=aDc.1 hs
  exact Mn (BL hx ho hw d hd)
theorem uN {K:Nat->ByteArray} {x:eW} (hx:mX K x) (hw:rQ K x):(cX K x).size<=2000000:=by
 unfold cX
 split
 ·rename_i hc
  have ho:=La hc
  have h:=vQ (c:=10) (Ct hx ho hw)
  have:=nV ho
  rw [aB3,aCj] at h;omega
 ·decide
theorem RA (K:Nat->ByteArray) (d) (w) (hE:rI K w) (hd:fD K d):cT 147 [.agg (fZ d).toArray] w fun v _=>∃ n:Int,v=.tuple #[.string (uZ K d),zi n]:=by
 refine (Qe K d w hE hd _ (aEb rfl)).mono ?_
 rintro e w' ⟨⟨n,rfl,_⟩,hb⟩
 exact ⟨_,rfl,hb,n,rfl⟩
def Dd (s:ByteArray):List Value:=[.string s]
theorem pZ (s):(Dd s).length=1:=rfl
theorem pG (l:List ByteArray):l.flatMap Dd=sv l:=by
 induction l with
 | nil=>rfl
 | cons x r ih=>rw [aBu,ih];rfl
theorem Ha {fn:ByteArray->dN} {P:List dN} {l:List ByteArray} {w:World} (hk:k<l.length) (h:w.ownsRow base 220 5 v ((P++(l.take k).map fn).length+1) ((P++(l.take k).map fn).flatMap fZ++fZ (fn l[k]))):w.ownsRow base 220 5 v (P++(l.take (k+1)).map fn).length ((P++(l.take (k+1)).map fn).flatMap fZ):=by
 have e:P++(l.take (k+1)).map fn=(P++(l.take k).map fn)++[fn l[k]]:=by rw [aAr hk,aCo,aBs];rfl
 have e2:[fn l[k]].flatMap fZ=fZ (fn l[k]):=by simp
 rw [e,aBb,aBh,e2]
 exact h
theorem Nw {α:Type} {f:α->ByteArray} {l:List α} (hk:k<l.length):sv (h::(l.take k).map f)++[.string (f l[k])]=sv (h::(l.take (k+1)).map f):=by
 unfold sv;rw [aAr hk,aCo];simp
theorem MG (K:Nat->ByteArray) (x) (w) (hE:rI K w) (ha:x.At w) (hx:mX K x.c) (hw:rQ K x.c):cT 76 [.agg (bS.cells x).toArray] w fun v _=>v=.tuple #[.string (cX K x.c),zi (cA 150 (bL K x.c))]:=by
 refine aJ (n:=85) func76 rfl ntmps76 (aA1 rfl) (rg (cO (cs:=bS.cells x) rfl rfl fun w1 B1 k1 z1 =>?_))
 have leB1:=aDl w.heap.size
 refine bU (bU (nx (aF (rg (sq (IK rfl B1.range rfl) (cE PP (a1 rfl) (wE K x _ (hE.below k1) (ha.below k1) hx) ?_))))))
 rintro _ w2 k2 rfl
 have b3:=aDu k1 k2
 have B1:=B1.below k2
 refine aW (zi (cA 150 (bL K x.c))) rfl (nx (rg (aN (zi (cA 150 (bL K x.c))) rfl (sq (gC rfl rfl) (nx ?_)))))
 refine cd rfl (fun c4=>?_) (fun c4=>?_)
 ·
  refine rg (aN (zi (cA 150 (bL K x.c))) rfl (bU (aW (zi (cA 150 (bL K x.c))) rfl (nx (aE ?_)))))
  have hno:=JL (by decide) c4
  exact Tm (R:=fun v _=>v=.tuple #[.string (cX K x.c),zi (cA 150 (bL K x.c))]) rfl b3 (by unfold cX;rw [hno];exact pY rfl rfl)
 ·
  refine aG ?_
  have hc:=nM (by decide) c4
  have ho:=La hc
  refine rg (sq (wH rfl) (sq (cZ rfl (B1.cell 5 rfl)) (sq (Fr rfl) (sq (nY rfl (B1.cell 8 rfl)) (sq (uD rfl rfl rfl) (sq (Ih rfl) (sq (cZ rfl (B1.cell 6 rfl)) (sq (pT rfl rfl) (sq (IU rfl) (sq (cZ rfl (B1.cell 7 rfl)) (sq (pT rfl rfl) ?_)))))))))))
  have hlb:=B1.lt
  refine Rv rfl rfl rfl fun w5 B5 k5 z5 =>?_
  have nB1_B5:=aC8 B1.lt
  have leB5:=b3.size
  have b6:=aDu b3 k5
  have B1:=B1.below k5
  have B5:Bk w2.heap.size ((lS x.c).flatMap fZ) 220 w5:=B5
  refine aW (.slice (some ⟨w2.heap.size,0,none⟩) (3) (3)) rfl (nx (rg (aN (.slice (some ⟨w2.heap.size,0,none⟩) (3) (3)) rfl (By (caps:=[]) en144 rfl (ac (a2 rfl rfl)) (Su w2.heap.size w2.heap.size (lS x.c) _ (aDl _) (by show 3<=1000;decide) B5) ?_))))
  rintro vl w7 k7 hO
  have B1:=B1.km k7 (fun e=>by omega)
  have b8:=aDs k7 b6 b6.size (fun i hi=>by have:=b3.size;omega)
  have hob:w2.heap.size<=w7.heap.size:=aC7 (aDj B5.lt) k7.size
  have hlw:=b3.size
  have lwl:∀ i,Value.ownBlock vl=some i->w.heap.size<=i:=fun i hi=>aC7 hlw (aM hO i hi)
  have nel:∀ i,Value.ownBlock vl=some i->i≠w.heap.size:=fun i hi=>by have:=aM hO i hi;omega
  refine aW vl rfl (nx (rg (aN vl rfl (sq (Fj rfl) (sq (WN rfl (B1.cell 9 rfl)) ?_)))))
  have hk0:(gS (lS x.c)).length<=3:=nW _
  have ham:=(ha.make.below b8)
  refine XY underlying94 mW rfl (by decide) rfl hO rfl ham (by rw [aB1];intro u hu;obtain ⟨q,_,hq⟩:=List.mem_flatMap.1 hu;exact aB1.1 (show (fZ q).all (·.oneCell')=true from rfl) u hq) (by have:=ho.makeN;unfold maxLen;omega) (by have:=ho.makeN;omega) hob fun v9 w9 hw9 k9 ha9 =>?_
  have B1:=B1.km k9 (fun e=>nel _ e rfl)
  have b10:=aDs k9 b8 b8.size (fun i hi=>lwl i hi)
  have hob:=aC7 hob k9.size
  rw [<- aBh,<- aBb] at hw9
  refine aW v9 rfl (nx (aF (rg (sq (Bu rfl) (sq (It rfl (B1.cell 10 rfl)) (sq (aY underlying95 rfl) (rU (nx ?_))))))))
  refine bD (fun k g W=>∃ vd:Value,g 41=zi ((k:Nat):Int)/\g 40=zi (((x.c.drop.length:Nat)):Int)/\g 1=pt w.heap.size (0)/\g 2=.string (⟨#[]⟩)/\g 3=zi (0)/\g 5=vd/\g 39=.slice x.db x.c.drop.length x.dc/\Bk w.heap.size (bS.cells x) 97 W/\W.ownsRow w2.heap.size 220 5 vd (((gS (lS x.c)++x.c.make)++(x.c.drop.take k).map Dp).length) (((gS (lS x.c)++x.c.make)++(x.c.drop.take k).map Dp).flatMap fZ)/\Below w.heap.size w W/\(w2.heap.size<=W.heap.size)) x.c.drop.length (by have:=ho.dropN;omega) (fun _ _ _ ⟨vd,h⟩=>⟨h.1,h.2.1⟩) ⟨v9,rfl,rfl,rfl,rfl,rfl,rfl,rfl,B1,(by simpa using hw9),b10,hob⟩ rfl rfl (fun _ _ _ _ h=>h) ?_ ?_
  ·
   rintro k g12 w12 hk ⟨vd,s41,s40,s1,s2,s3,s5,s39,B1,hO,b12,hbz⟩
   have lwO12:∀ i,Value.ownBlock vd=some i->w.heap.size<=i:=fun i hi=>aC7 hlw (aM hO i hi)
   have neO12_B1:∀ i,Value.ownBlock vd=some i->i≠w.heap.size:=fun i hi=>by have:=aM hO i hi;have:=hlb;omega
   obtain ⟨g,o,hge,hg,hr⟩:=aD5 ha.drop (aBg (aDm _) hk)
   have s39b:=s39
   rw [hge] at s39b
   refine rg (sq (bB underlying95 sizeOf9 s39b s41 hk) (sq (nY rfl (cQ Dd 1 pZ (by rw [pG];exact hr) hg b12 hk 0 _ rfl)) (aW (.string (x.c.drop[k])) rfl (nx (eO (bI s5 (aN (.string (x.c.drop[k])) rfl (sq (uT rfl rfl) (Cd (cs:=[.int .u8 (5),.string (x.c.drop[k]),.string (⟨#[]⟩),aV,.bool false]) underlying94 mW rfl rfl rfl rfl fun w13 B13 k13 z13 =>?_)))))))))
   have nB1_B13:=aC8 B1.lt
   have leB13:=b12.size
   have leB13_w12:=aDl w12.heap.size
   have b14:=aDu b12 k13
   have B1:=B1.below k13
   have hO:=bE hO k13
   refine xZ (m:=1) (sz:=5) underlying94 mW rfl (aA1 rfl) rfl hO rfl (news:=[.int .u8 (5),.string (x.c.drop[k]),.string (⟨#[]⟩),aV,.bool false]) rfl B13.range rfl (by have:=nW (lS x.c);have h3:(lS x.c).length=3:=rfl;have:=ho.makeN;have:=ho.dropN;have:=ho.useN;simp only [maxLen,aBh,aCj,aB7];omega) (by have:=nW (lS x.c);have h3:(lS x.c).length=3:=rfl;have:=ho.makeN;have:=ho.dropN;have:=ho.useN;simp only [aBh,aCj,aB7];omega) (aC7 hbz k13.size) fun v15 w15 hw15 k15 ha15 =>?_
   have B1:=B1.km k15 (fun e=>neO12_B1 _ e rfl)
   have b16:=aDs k15 b14 b14.size (fun i hi=>lwO12 i hi)
   exact aW v15 rfl (nl (dO ⟨⟨v15,rfl,s40,s1,s2,s3,rfl,s39.trans (by rw [hge]),B1,(Ha (fn:=Dp) hk hw15),b16,aC7 (aC7 hbz k13.size) k15.size⟩,s41⟩))
  ·
   rintro g18 w18 ⟨vd,s41,s40,s1,s2,s3,s5,s39,B1,hO,b18,hbz⟩
   have neO18_B1:∀ i,Value.ownBlock vd=some i->i≠w.heap.size:=fun i hi=>by have:=aM hO i hi;have:=hlb;omega
   rw [aCb] at hO
   have hob:=hbz
   refine aF (rg (sq (yF s1) (sq (It rfl (B1.cell 11 rfl)) (sq (aY underlying95 rfl) (rU (nx ?_))))))
   refine bD (fun k g W=>∃ vu:Value,g 54=zi ((k:Nat):Int)/\g 53=zi (((x.c.use.length:Nat)):Int)/\g 1=pt w.heap.size (0)/\g 2=.string (⟨#[]⟩)/\g 3=zi (0)/\g 5=vu/\g 52=.slice x.ub x.c.use.length x.uc/\Bk w.heap.size (bS.cells x) 97 W/\W.ownsRow w2.heap.size 220 5 vu (((gS (lS x.c)++x.c.make++x.c.drop.map Dp)++(x.c.use.take k).map UI).length) (((gS (lS x.c)++x.c.make++x.c.drop.map Dp)++(x.c.use.take k).map UI).flatMap fZ)/\Below w.heap.size w W/\(w2.heap.size<=W.heap.size)) x.c.use.length (by have:=ho.useN;omega) (fun _ _ _ ⟨vu,h⟩=>⟨h.1,h.2.1⟩) ⟨vd,rfl,rfl,s1,s2,s3,s5,rfl,B1,(by simpa using hO),b18,hob⟩ rfl rfl (fun _ _ _ _ h=>h) ?_ ?_
   ·
    rintro k g19 w19 hk ⟨vu,s54,s53,s1,s2,s3,s5,s52,B1,hO,b19,hbz⟩
    have lwO19:∀ i,Value.ownBlock vu=some i->w.heap.size<=i:=fun i hi=>aC7 hlw (aM hO i hi)
    have neO19_B1:∀ i,Value.ownBlock vu=some i->i≠w.heap.size:=fun i hi=>by have:=aM hO i hi;have:=hlb;omega
    obtain ⟨g,o,hge,hg,hr⟩:=aD5 ha.use (aBg (aDm _) hk)
    have s52b:=s52
    rw [hge] at s52b
    refine rg (sq (bB underlying95 sizeOf9 s52b s54 hk) (sq (nY rfl (cQ Dd 1 pZ (by rw [pG];exact hr) hg b19 hk 0 _ rfl)) (aW (.string (x.c.use[k])) rfl (nx (eO (bI s5 (aN (.string (x.c.use[k])) rfl (sq (uT rfl rfl) (Cd (cs:=[.int .u8 (6),.string (x.c.use[k]),.string (⟨#[]⟩),aV,.bool false]) underlying94 mW rfl rfl rfl rfl fun w20 B20 k20 z20 =>?_)))))))))
    have nB1_B20:=aC8 B1.lt
    have leB20:=b19.size
    have leB20_w19:=aDl w19.heap.size
    have b21:=aDu b19 k20
    have B1:=B1.below k20
    have hO:=bE hO k20
    refine xZ (m:=1) (sz:=5) underlying94 mW rfl (aA1 rfl) rfl hO rfl (news:=[.int .u8 (6),.string (x.c.use[k]),.string (⟨#[]⟩),aV,.bool false]) rfl B20.range rfl (by have:=nW (lS x.c);have h3:(lS x.c).length=3:=rfl;have:=ho.makeN;have:=ho.dropN;have:=ho.useN;simp only [maxLen,aBh,aCj,aB7];omega) (by have:=nW (lS x.c);have h3:(lS x.c).length=3:=rfl;have:=ho.makeN;have:=ho.dropN;have:=ho.useN;simp only [aBh,aCj,aB7];omega) (aC7 hbz k20.size) fun v22 w22 hw22 k22 ha22 =>?_
    have B1:=B1.km k22 (fun e=>neO19_B1 _ e rfl)
    have b23:=aDs k22 b21 b21.size (fun i hi=>lwO19 i hi)
    exact aW v22 rfl (nl (dO ⟨⟨v22,rfl,s53,s1,s2,s3,rfl,s52.trans (by rw [hge]),B1,(Ha (fn:=UI) hk hw22),b23,aC7 (aC7 hbz k20.size) k22.size⟩,s54⟩))
   ·
    rintro g25 w25 ⟨vu,s54,s53,s1,s2,s3,s5,s52,B1,hO,b25,hbz⟩
    have neO25_B1:∀ i,Value.ownBlock vu=some i->i≠w.heap.size:=fun i hi=>by have:=aM hO i hi;have:=hlb;omega
    rw [aCb] at hO
    have hob:=hbz
    have hO:w25.ownsRow w2.heap.size 220 5 vu (iD x.c).length ((iD x.c).flatMap fZ):=hO
    obtain ⟨bn,cn,rfl,hnm⟩:=eG hO
    have hbxn:=B1.lt
    have hwn0:=b25.size
    refine rg (sq (IK s1 B1.range rfl) (cE aAh (a1 rfl) (PR K x _ (hE.below b25) (ha.below b25) ho) ?_))
    rintro _ w26 k26 rfl
    have b27:=aDu b25 k26
    have B1:=B1.below k26
    refine EW rfl fun w28 B28 k28 z28 =>?_
    have nB1_B28:=aC8 B1.lt
    have leB28:=b27.size
    have leB28_w25:=k26.size
    have b29:=aDu b27 k28
    have B1:=B1.below k28
    have b30:=aDu k26 k28
    refine aW (.slice (some ⟨w26.heap.size,0,none⟩) (1) (1)) rfl (nx (aF (rg (bI s5 (sq (aY underlying94 rfl) (rU (nx ?_)))))))
    have hlb3:w.heap.size<w25.heap.size:=hbxn
    have hwnb:w25.heap.size<=w26.heap.size:=leB28_w25
    have hO2:w28.ownsRow w25.heap.size 9 1 (.slice (some ⟨w26.heap.size,0,none⟩) 1 1) 1 (sv (pD x.c::((iD x.c).take 0).map (uZ K))):=⟨rfl,.inr ⟨_,1,#[.string (pD x.c)],rfl,hwnb,B28,aDl _,by decide,rfl,rfl⟩⟩
    have hlw3:w.heap.size<=w25.heap.size:=hwn0
    refine bD (fun k g W=>∃ vt:Value,g 69=zi ((k:Nat):Int)/\g 68=zi ((((iD x.c).length:Nat)):Int)/\g 2=.string (⟨#[]⟩)/\g 3=zi (0)/\g 10=vt/\g 67=.slice bn ((iD x.c).length) cn/\Bk w.heap.size (bS.cells x) 97 W/\Below w25.heap.size w25 W/\W.ownsRow w25.heap.size 9 1 vt (k+1) (sv (pD x.c::((iD x.c).take k).map (uZ K)))/\Below w.heap.size w W/\True) ((iD x.c).length) (by have:=nV ho;omega) (fun _ _ _ ⟨vt,h⟩=>⟨h.1,h.2.1⟩) ⟨.slice (some ⟨w26.heap.size,0,none⟩) 1 1,rfl,rfl,s2,s3,rfl,rfl,B1,b30,hO2,b29,trivial⟩ rfl rfl (fun _ _ _ _ h=>h) ?_ ?_
    ·
     rintro k g31 w31 hk ⟨vt,s69,s68,s2,s3,s10,s67,B1,b31_w25,hO,b31,-⟩
     have lwO31:∀ i,Value.ownBlock vt=some i->w.heap.size<=i:=fun i hi=>aC7 hlw3 (aM hO i hi)
     have neO31_B1:∀ i,Value.ownBlock vt=some i->i≠w.heap.size:=fun i hi=>by have:=aM hO i hi;have:=hlb3;omega
     have lbO31:=aM hO
     obtain ⟨g,o,hge,hg,hr⟩:=aD5 hnm (aBg (aDm _) hk)
     have s67b:=s67
     rw [hge] at s67b
     refine rg (sq (bB underlying94 sizeOf220 s67b s69 hk) (sq (uI rfl (cQ fZ 5 fQ hr hg b31_w25 hk) rfl) (eA (cs:=[.int .u8 (0),.string (⟨#[]⟩),.string (⟨#[]⟩),aV,.bool false]) zeroValue220 rfl fun w32 B32 k32 z32 =>?_)))
     have nB1_B32:=aC8 B1.lt
     have nOvt_B32:∀ i,Value.ownBlock vt=some i->i≠w31.heap.size:=fun i hi=>aC8 (bA hO i hi)
     have leB32:=b31.size
     have leB32_w25:=b31_w25.size
     have b33:=aDu b31 k32
     have B1:=B1.below k32
     have hO:=bE hO k32
     have b34:=aDu b31_w25 k32
     refine bR (vs:=fZ (iD x.c)[k]) B32 sizeOf220 rfl rfl rfl rfl fun w35 B32n O35 z35 =>?_
     replace B32:=B32n
     have b36:=aS.toBelow O35 b33 b33.size leB32
     have B1:=B1.only O35 nB1_B32
     have hO:=eF hO O35 nOvt_B32
     have b37:=aS.toBelow O35 b34 b34.size leB32_w25
     refine nx (rg (sq (uI rfl B32.range rfl) (cE en147 (a1 rfl) (RA K (iD x.c)[k] _ (hE.below b36) (BL hx ho hw _ (aBz hk))) ?_)))
     rintro v38 w38 k38 ⟨en,rfl⟩
     have b39:=aDu b36 k38
     have B1:=B1.below k38
     have B32:=B32.below k38
     have hO:=bE hO k38
     have b40:=aDu b37 k38
     refine aN (.tuple #[.string (uZ K (iD x.c)[k]),zi en]) rfl (sq (dT rfl rfl) (sq (dT rfl rfl) (aW (.string (uZ K (iD x.c)[k])) rfl (aW (zi en) rfl (nx (eO (bI s10 (aN (.string (uZ K (iD x.c)[k])) rfl (EW rfl fun w41 B41 k41 z41 =>?_)))))))))
     have nB1_B41:=aC8 B1.lt
     have nB32_B41:=aC8 B32.lt
     have leB41:=b39.size
     have leB41_w25:=b40.size
     have b42:=aDu b39 k41
     have B1:=B1.below k41
     have hO:=bE hO k41
     have DI:=aDu b40 k41
     refine xZ (m:=1) (sz:=1) underlying95 oB rfl (aA1 rfl) rfl hO rfl (news:=[.string (uZ K (iD x.c)[k])]) rfl B41.range rfl (by simp only [maxLen];have:=nV ho;omega) (by have:=nV ho;omega) DI.size fun v44 w44 hw44 k44 ha44 =>?_
     have B1:=B1.km k44 (fun e=>neO31_B1 _ e rfl)
     have b45:=aDs k44 b42 b42.size (fun i hi=>lwO31 i hi)
     have b47:=aDs k44 DI DI.size (fun i hi=>lbO31 i hi)
     exact aW v44 rfl (nl (dO ⟨⟨v44,rfl,s68,s2,s3,rfl,s67.trans (by rw [hge]),B1,b47,(by rw [<- Nw hk];exact hw44),b45,trivial⟩,s69⟩))
    ·
     rintro g48 w48 ⟨vt,s69,s68,s2,s3,s10,s67,B1,b48_w25,hO,b48,-⟩
     have neO48_B1:∀ i,Value.ownBlock vt=some i->i≠w.heap.size:=fun i hi=>by have:=aM hO i hi;have:=hlb3;omega
     rw [aCb] at hO
     obtain ⟨bt,ct,rfl,hrt⟩:=eG hO
     refine rg (bI s10 (cE VB (a2 rfl rfl) (GJ (.slice bt ((iD x.c).length+1) ct) ct (pD x.c::(iD x.c).map (uZ K)) 10 _ 100000 (show Rd 1 _ (.slice bt ((iD x.c).length+1) ct) (pD x.c::(iD x.c).map (uZ K)).length ct (sv (pD x.c::(iD x.c).map (uZ K))) from by rw [aB3,aCj];exact hrt.below (aDt _ _)) (Ct hx ho hw) (by have:=nV ho;rw [aB3,aCj];omega) (by have:=nV ho;rw [aB3,aCj];omega)) ?_))
     rintro _ w49 k49 rfl
     have b50:=aDu b48 k49
     exact aW (.string (oU (pD x.c::(iD x.c).map (uZ K)) ⟨#[10]⟩)) rfl (bU (nx (aE (Tm (R:=fun v _=>v=.tuple #[.string (cX K x.c),zi (cA 150 (bL K x.c))]) rfl b50 (by unfold cX;rw [aEc hc,uH hc];exact pY rfl rfl)))))
theorem IW: (prog.info? 4).map (fun i=>(i.zero,i.size,i.bytes))=some (some (.bool false),1,1):=by kernel_rfl
theorem GG: (prog.info? 104).map (fun i=>(i.zero,i.size,i.bytes))=some (some (.int .u64 0),1,8):=by kernel_rfl
section
variable {r:Option Nat} {n:Nat} {ds:List Deferred} {g:Nat->Value} {w:World} {Q:Exit->Act->World->Prop} {l:List Oper} {ops:Array Oper} {ty:TypeId} {pos:String} {aft:Array Edge} {d:Tmp} {dd:Option Tmp} {gd:Option (Nat × Bool)} {Pn:List PanicEntry->World->Prop}
theorem xS (h0:ev n g x0=.string a0) (h:∀ v w',Below w.heap.size w w'->Rd 1 w' v 1 1 [.string a0]->dY r ops Q l (fr n ds (up g d v)) w'):dY r ops Q (⟨some d,.buildSlice 95 1 #[(0,x0)],ty,pos,aft,none⟩::l) (fr n ds g) w:=by
 obtain ⟨i0,hi,hz0,hz1,hz2⟩:=info_parts oB
 exact uX (ps:=[(0,x0)]) (ie:=i0) (cells:=[.string a0]) underlying95 hi hz0 (by rw [hz1];rfl) (by rw [hz1];rfl) (by rw [hz1];simp only [aC3,aDb,h0];kernel_rfl) rfl rfl h
theorem QT (h0:ev n g x0=.string a0):tV n g ⟨dd,.buildSlice 95 1 #[(0,x0)],ty,pos,aft,gd⟩ w Pn fun v w'=>Below w.heap.size w w'/\Rd 1 w' v 1 1 [.string a0]:=by
 obtain ⟨i0,hi,hz0,hz1,hz2⟩:=info_parts oB
 exact LG (ps:=[(0,x0)]) (ie:=i0) (cells:=[.string a0]) underlying95 hi hz0 (by rw [hz1];rfl) (by rw [hz1];rfl) (by rw [hz1];simp only [aC3,aDb,h0];kernel_rfl) rfl rfl
theorem Qa {x0 x1 x2:Operand} {a0 a1 a2:ByteArray} (h0:ev n g x0=.string a0) (h1:ev n g x1=.string a1) (h2:ev n g x2=.string a2) (h:∀ v w',Below w.heap.size w w'->Rd 1 w' v 3 3 [.string a0,.string a1,.string a2]->dY r ops Q l (fr n ds (up g d v)) w'):dY r ops Q (⟨some d,.buildSlice 95 3 #[(0,x0),(1,x1),(2,x2)],ty,pos,aft,none⟩::l) (fr n ds g) w:=by
 obtain ⟨i0,hi,hz0,hz1,hz2⟩:=info_parts oB
 exact uX (ps:=[(0,x0),(1,x1),(2,x2)]) (ie:=i0) (cells:=[.string a0,.string a1,.string a2]) underlying95 hi hz0 (by rw [hz1];rfl) (by rw [hz1];rfl) (by rw [hz1];simp only [aC3,aDb,h0,h1,h2];kernel_rfl) rfl rfl h
theorem zI {a0:Bool} (h0:ev n g x0=.bool a0) (h:∀ v w',Below w.heap.size w w'->Rd 1 w' v 1 1 [.bool a0]->dY r ops Q l (fr n ds (up g d v)) w'):dY r ops Q (⟨some d,.buildSlice 239 1 #[(0,x0)],ty,pos,aft,none⟩::l) (fr n ds g) w:=by
 obtain ⟨i0,hi,hz0,hz1,hz2⟩:=info_parts IW
 exact uX (ps:=[(0,x0)]) (ie:=i0) (cells:=[.bool a0]) underlying239 hi hz0 (by rw [hz1];rfl) (by rw [hz1];rfl) (by rw [hz1];simp only [aC3,aDb,h0];kernel_rfl) rfl rfl h
theorem LS {a0:Bool} (h0:ev n g x0=.bool a0):tV n g ⟨dd,.buildSlice 239 1 #[(0,x0)],ty,pos,aft,gd⟩ w Pn fun v w'=>Below w.heap.size w w'/\Rd 1 w' v 1 1 [.bool a0]:=by
 obtain ⟨i0,hi,hz0,hz1,hz2⟩:=info_parts IW
 exact LG (ps:=[(0,x0)]) (ie:=i0) (cells:=[.bool a0]) underlying239 hi hz0 (by rw [hz1];rfl) (by rw [hz1];rfl) (by rw [hz1];simp only [aC3,aDb,h0];kernel_rfl) rfl rfl
theorem zR {a0 a1:Bool} (h0:ev n g x0=.bool a0) (h1:ev n g x1=.bool a1) (h:∀ v w',Below w.heap.size w w'->Rd 1 w' v 2 2 [.bool a0,.bool a1]->dY r ops Q l (fr n ds (up g d v)) w'):dY r ops Q (⟨some d,.buildSlice 239 2 #[(0,x0),(1,x1)],ty,pos,aft,none⟩::l) (fr n ds g) w:=by
 obtain ⟨i0,hi,hz0,hz1,hz2⟩:=info_parts IW
 exact uX (ps:=[(0,x0),(1,x1)]) (ie:=i0) (cells:=[.bool a0,.bool a1]) underlying239 hi hz0 (by rw [hz1];rfl) (by rw [hz1];rfl) (by rw [hz1];simp only [aC3,aDb,h0,h1];kernel_rfl) rfl rfl h
theorem Qb {a0 a1 a2 a3:Int} (h0:ev n g x0=zi a0) (h1:ev n g x1=zi a1) (h2:ev n g x2=zi a2) (h3:ev n g x3=zi a3) (h:∀ v w',Below w.heap.size w w'->Rd 1 w' v 4 4 [zi a0,zi a1,zi a2,zi a3]->dY r ops Q l (fr n ds (up g d v)) w'):dY r ops Q (⟨some d,.buildSlice 39 4 #[(0,x0),(1,x1),(2,x2),(3,x3)],ty,pos,aft,none⟩::l) (fr n ds g) w:=by
 obtain ⟨i0,hi,hz0,hz1,hz2⟩:=info_parts Cc
 exact uX (ps:=[(0,x0),(1,x1),(2,x2),(3,x3)]) (ie:=i0) (cells:=[zi a0,zi a1,zi a2,zi a3]) underlying39 hi hz0 (by rw [hz1];rfl) (by rw [hz1];rfl) (by rw [hz1];simp only [aC3,aDb,h0,h1,h2,h3];kernel_rfl) rfl rfl h
theorem Md {a0 a1 a2 a3 a4 a5 a6 a7 a8 a9 a10:Int} (h0:ev n g x0=zi a0) (h1:ev n g x1=zi a1) (h2:ev n g x2=zi a2) (h3:ev n g x3=zi a3) (h4:ev n g x4=zi a4) (h5:ev n g x5=zi a5) (h6:ev n g x6=zi a6) (h7:ev n g x7=zi a7) (h8:ev n g x8=zi a8) (h9:ev n g x9=zi a9) (h10:ev n g x10=zi a10) (h:∀ v w',Below w.heap.size w w'->Rd 1 w' v 11 11 [zi a0,zi a1,zi a2,zi a3,zi a4,zi a5,zi a6,zi a7,zi a8,zi a9,zi a10]->dY r ops Q l (fr n ds (up g d v)) w'):dY r ops Q (⟨some d,.buildSlice 39 11 #[(0,x0),(1,x1),(2,x2),(3,x3),(4,x4),(5,x5),(6,x6),(7,x7),(8,x8),(9,x9),(10,x10)],ty,pos,aft,none⟩::l) (fr n ds g) w:=by
 obtain ⟨i0,hi,hz0,hz1,hz2⟩:=info_parts Cc
 exact uX (ps:=[(0,x0),(1,x1),(2,x2),(3,x3),(4,x4),(5,x5),(6,x6),(7,x7),(8,x8),(9,x9),(10,x10)]) (ie:=i0) (cells:=[zi a0,zi a1,zi a2,zi a3,zi a4,zi a5,zi a6,zi a7,zi a8,zi a9,zi a10]) underlying39 hi hz0 (by rw [hz1];rfl) (by rw [hz1];rfl) (by rw [hz1];simp only [aC3,aDb,h0,h1,h2,h3,h4,h5,h6,h7,h8,h9,h10];kernel_rfl) rfl rfl h
theorem Ao {a0:Int} (h0:ev n g x0=.int .u64 a0) (h:∀ v w',Below w.heap.size w w'->Rd 1 w' v 1 1 [.int .u64 a0]->dY r ops Q l (fr n ds (up g d v)) w'):dY r ops Q (⟨some d,.buildSlice 238 1 #[(0,x0)],ty,pos,aft,none⟩::l) (fr n ds g) w:=by
 obtain ⟨i0,hi,hz0,hz1,hz2⟩:=info_parts GG
 exact uX (ps:=[(0,x0)]) (ie:=i0) (cells:=[.int .u64 a0]) underlying238 hi hz0 (by rw [hz1];rfl) (by rw [hz1];rfl) (by rw [hz1];simp only [aC3,aDb,h0];kernel_rfl) rfl rfl h
theorem Nh {a0:Int} (h0:ev n g x0=.int .u64 a0):tV n g ⟨dd,.buildSlice 238 1 #[(0,x0)],ty,pos,aft,gd⟩ w Pn fun v w'=>Below w.heap.size w w'/\Rd 1 w' v 1 1 [.int .u64 a0]:=by
 obtain ⟨i0,hi,hz0,hz1,hz2⟩:=info_parts GG
 exact LG (ps:=[(0,x0)]) (ie:=i0) (cells:=[.int .u64 a0]) underlying238 hi hz0 (by rw [hz1];rfl) (by rw [hz1];rfl) (by rw [hz1];simp only [aC3,aDb,h0];kernel_rfl) rfl rfl
end
theorem TX (wb m mc) (lb) (L) (LI:List Int) (w) (hS:Wr wb L w) (hl:Rd 1 w (.slice lb m mc) m mc (iv LI)) (hL:∀ x∈LI,jO x) (hsz:L.length+11*m+11<=70368744177664):uL wb 73 [pt wb 0,.slice lb m mc] L (L++aR (LI.map cB)) w:=by
 obtain ⟨vb,vc,hW,hR⟩:=hS
 have hwl:=hW.lt
 refine aJ (n:=13) func73 rfl ntmps73 (aA1 rfl) (eO (aN (pt wb (0)) rfl (aN (pt wb (0)) rfl (sq (dF rfl) (sq (jB rfl) (sq (uU rfl (hW.cell 0 rfl)) (aN (.slice lb m mc) rfl (cE Zm (a2 rfl rfl) (kP (Um (hR.below (aDt _ _)) (hl.below (aDt _ _)) hL hsz)) ?_))))))))
 rintro v1 w1 k1 ⟨nb,rfl,hN,hno⟩
 have hW:=hW.below k1
 have m2:KM (·=wb) w w1:=aDr k1
 refine sq (dF rfl) (sq (jB rfl) (eP hW sizeOf148 rfl rfl rfl rfl fun w3 hWn O3 z3 =>?_))
 replace hW:=hWn
 have m4:=m2.only O3 (.inl rfl)
 exact nl (fV rfl ⟨_,rfl,m4,nb,_,hW,hN.only O3 (fun e=>by have:=hno _ e;omega)⟩)
theorem On (wb m mc) (lb) (L) (LT:List ByteArray) (w) (hS:Wr wb L w) (hl:Rd 1 w (.slice lb m mc) m mc (sv LT)) (hsz:L.length+(cD LT).length+22<=70368744177664):uL wb 72 [pt wb 0,.slice lb m mc] L (L++cD LT) w:=by
 obtain ⟨vb,vc,hW,hR⟩:=hS
 have hwl:=hW.lt
 refine aJ (n:=13) func72 rfl ntmps72 (aA1 rfl) (eO (aN (pt wb (0)) rfl (aN (pt wb (0)) rfl (sq (dF rfl) (sq (jB rfl) (sq (uU rfl (hW.cell 0 rfl)) (aN (.slice lb m mc) rfl (cE Wv (a2 rfl rfl) (kP (DG (hR.below (aDt _ _)) (hl.below (aDt _ _)) hsz)) ?_))))))))
 rintro v1 w1 k1 ⟨nb,rfl,hN,hno⟩
 have hW:=hW.below k1
 have m2:KM (·=wb) w w1:=aDr k1
 refine sq (dF rfl) (sq (jB rfl) (eP hW sizeOf148 rfl rfl rfl rfl fun w3 hWn O3 z3 =>?_))
 replace hW:=hWn
 have m4:=m2.only O3 (.inl rfl)
 exact nl (fV rfl ⟨_,rfl,m4,nb,_,hW,hN.only O3 (fun e=>by have:=hno _ e;omega)⟩)
theorem Ql (wb m mc) (lb) (L) (LB:List Bool) (w) (hS:Wr wb L w) (hl:Rd 1 w (.slice lb m mc) m mc (fv LB)) (hsz:L.length+11*m+11<=70368744177664):uL wb 78 [pt wb 0,.slice lb m mc] L (L++aR (LB.map eH)) w:=by
 obtain ⟨vb,vc,hW,hR⟩:=hS
 have hwl:=hW.lt
 refine aJ (n:=13) func78 rfl ntmps78 (aA1 rfl) (eO (aN (pt wb (0)) rfl (aN (pt wb (0)) rfl (sq (dF rfl) (sq (jB rfl) (sq (uU rfl (hW.cell 0 rfl)) (aN (.slice lb m mc) rfl (cE VO (a2 rfl rfl) (kP (GE (hR.below (aDt _ _)) (hl.below (aDt _ _)) hsz)) ?_))))))))
 rintro v1 w1 k1 ⟨nb,rfl,hN,hno⟩
 have hW:=hW.below k1
 have m2:KM (·=wb) w w1:=aDr k1
 refine sq (dF rfl) (sq (jB rfl) (eP hW sizeOf148 rfl rfl rfl rfl fun w3 hWn O3 z3 =>?_))
 replace hW:=hWn
 have m4:=m2.only O3 (.inl rfl)
 exact nl (fV rfl ⟨_,rfl,m4,nb,_,hW,hN.only O3 (fun e=>by have:=hno _ e;omega)⟩)
theorem gQ (wb m mc) (v) (L) (LI:List Int) (w) (hS:Wr wb L w) (hl:Rd 1 w v m mc (iv LI)) (hL:∀ x∈LI,jO x) (hsz:L.length+11*m+11<=70368744177664):uL wb 73 [pt wb 0,v] L (L++aR (LI.map cB)) w:=by
 obtain ⟨b,rfl,hl⟩:=eJ hl
 exact TX wb m mc b L LI w hS hl hL hsz
theorem pS (wb m mc) (v) (L) (LT:List ByteArray) (w) (hS:Wr wb L w) (hl:Rd 1 w v m mc (sv LT)) (hsz:L.length+(cD LT).length+22<=70368744177664):uL wb 72 [pt wb 0,v] L (L++cD LT) w:=by
 obtain ⟨b,rfl,hl⟩:=eJ hl
 exact On wb m mc b L LT w hS hl hsz
theorem nX (wb m mc) (v) (L) (LB:List Bool) (w) (hS:Wr wb L w) (hl:Rd 1 w v m mc (fv LB)) (hsz:L.length+11*m+11<=70368744177664):uL wb 78 [pt wb 0,v] L (L++aR (LB.map eH)) w:=by
 obtain ⟨b,rfl,hl⟩:=eJ hl
 exact Ql wb m mc b L LB w hS hl hsz
def MY (L:List UInt8) (x:Int):List UInt8:=(L++aR ([x].map cB))
theorem Rp (wb) (L) (x:Int) (w) (hS:Wr wb L w) (hx:jO x) (hsz:L.length+22<=70368744177664):uL wb 84 [pt wb 0,zi x] L (MY L x) w:=by
 refine aJ (n:=8) func84 rfl ntmps84 (aA1 rfl) (eO (aN (pt wb (0)) rfl (aN (zi x) rfl (mM rfl fun v1 w1 k1 r1 =>?_))))
 have hS:=hS.below k1
 have m2:KM (·=wb) w w1:=aDr k1
 refine rN (fst:=[]) (caps:=[]) zU rfl (dZ (a2 rfl rfl)) (gQ wb _ _ _ L [x] _ hS r1 (by simpa using hx) (by omega)) fun v3 w3 k3 hS =>?_
 have m4:KM (·=wb) w w3:=m2 |>.trans k3
 have hL5:=cR L [x] 1 rfl
 exact nl (fV rfl ⟨_,rfl,m4,hS⟩)
def AU (L:List UInt8) (x:aK):List UInt8:=(L++aR ([x.at_,x.len].map cB))
theorem QL (wb) (L) (x) (w) (hS:Wr wb L w) (hx:x.Fit) (hsz:L.length+33<=70368744177664):uL wb 82 [pt wb 0,.agg (aK.cells x).toArray] L (AU L x) w:=by
 refine aJ (n:=11) func82 rfl ntmps82 (aA1 rfl) (rg (cO (cs:=aK.cells x) rfl rfl fun w1 B1 k1 z1 =>?_))
 have lkB1_w:=aDl w.heap.size
 have hS_B1:=hS
 have leB1_w:=aDl w.heap.size
 have nWB1:w.heap.size≠wb:=aDk hS.lt
 have hS:=hS.below k1
 have m2:KM (·=wb) w w1:=aDr k1
 refine nx (eO (aN (pt wb (0)) rfl (sq (gW rfl) (sq (cZ rfl (B1.cell 0 rfl)) (sq (gX rfl) (sq (cZ rfl (B1.cell 1 rfl)) (Cr rfl rfl fun v3 w3 k3 r3 =>?_)))))))
 have hS:=hS.below k3
 have m5:=m2.below k3
 refine rN (fst:=[]) (caps:=[]) zU rfl (dZ (a2 rfl rfl)) (gQ wb _ _ _ L [x.at_,x.len] _ hS r3 (by intro n hn;simp at hn;rcases hn with rfl | rfl;exact hx.at_;exact hx.len) (by omega)) fun v6 w6 k6 hS =>?_
 have m7:KM (·=wb) w w6:=m5 |>.trans k6
 have hL8:=cR L [x.at_,x.len] 2 rfl
 exact nl (fV rfl ⟨_,rfl,m7,hS⟩)
theorem kJ (s):(cD [s]).length<=11+s.size:=by
 have:=BW [] s;simpa using this
theorem Cf (s t u):(cD [s,t,u]).length<=33+s.size+t.size+u.size:=by
 have e:cD [s,t,u]=cD [s]++(cD [t]++cD [u]):=by simp [cD]
 rw [e,aBh,aBh]
 have:=kJ s;have:=kJ t;have:=kJ u;omega
theorem fB (E:List UInt8) (s):(E++cD [s]).length<=E.length+(11+s.size):=BW E s
theorem AR (E:List UInt8) (s t u):(E++cD [s,t,u]).length<=E.length+(33+s.size+t.size+u.size):=by
 rw [aBh];have:=Cf s t u;omega
def RE (L:List UInt8) (x:jC):List UInt8:=((L++cD [x.user])++aR ([x.n].map cB))
theorem WJ (wb bp) (wp) (hwb:wb=wp.heap.size) (L) (x:jC) (w) (hb:Below wp.heap.size wp w) (hP:Bk bp [pt wb 0] 147 w) (hbp:bp≠wb) (hS:Wr wb L w) (hx:x.Fit) (hsz:L.length+1000033<=70368744177664):uL wb 88 [.agg (jC.cells x).toArray,pt bp 0] L (RE L x) w:=by
 refine aJ (n:=13) func88 rfl ntmps88 (aA1 rfl) ?_
 have hxu:=hx.user
 refine rg (cO (cs:=jC.cells x) rfl rfl fun w1 B1 k1 z1 =>?_)
 have nhP_B1:=aC8 hP.lt
 have lkB1_w:=aDl w.heap.size
 have hS_B1:=hS
 have leB1_wp:=hb.size
 have leB1_w:=aDl w.heap.size
 have nWB1:w.heap.size≠wb:=aDk hS.lt
 have hP:=hP.below k1
 have hS:=hS.below k1
 have m3:KM (·=wb) w w1:=aDr k1
 refine nx (rg (sq (eI rfl (hP.cell 0 rfl)) (sq (AY rfl) (sq (nY rfl (B1.cell 0 rfl)) (xS rfl fun v4 w4 k4 r4 =>?_)))))
 have hP:=hP.below k4
 have B1:=B1.below k4
 have hS:=hS.below k4
 have m7:=m3.below k4
 refine rN (fst:=[]) (caps:=[]) RH rfl (dZ (a2 rfl rfl)) (pS wb _ _ _ L [x.user] _ hS r4 (by have:=kJ x.user;have:=hx.user;omega)) fun v8 w8 k8 hS =>?_
 have hP:=hP.km k8 hbp
 have B1:=B1.km k8 nWB1
 have m9:KM (·=wb) w w8:=m7 |>.trans k8
 have hL11:=fB L x.user
 refine nx (eO (sq (eI rfl (hP.cell 0 rfl)) (sq (tM rfl) (sq (cZ rfl (B1.cell 1 rfl)) (mM rfl fun v12 w12 k12 r12 =>?_)))))
 have hS:=hS.below k12
 have m14:=m9.below k12
 refine rN (fst:=[]) (caps:=[]) zU rfl (dZ (a2 rfl rfl)) (gQ wb _ _ _ (L++cD [x.user]) [x.n] _ hS r12 (by intro n hn;simp only [aC0,aBy,or_false] at hn;rw [hn];exact hx.n) (by omega)) fun v15 w15 k15 hS =>?_
 have m16:KM (·=wb) w w15:=m14 |>.trans k15
 have hL18:=cR (L++cD [x.user]) [x.n] 1 rfl
 exact nl (fV rfl ⟨_,rfl,m16,hS⟩)
def Hg (L:List UInt8) (x:eL):List UInt8:=(((L++aR ([x.job].map cB))++aR ([x.out].map eH))++aR ([x.size,x.done,x.tries,x.wait].map cB))
theorem UE (wb bp) (wp) (hwb:wb=wp.heap.size) (L) (x) (w) (hb:Below wp.heap.size wp w) (hP:Bk bp [pt wb 0] 147 w) (hbp:bp≠wb) (hS:Wr wb L w) (hx:x.Fit) (hsz:L.length+10000000<=70368744177664):uL wb 90 [.agg (eL.cells x).toArray,pt bp 0] L (Hg L x) w:=by
 refine aJ (n:=24) func90 rfl ntmps90 (aA1 rfl) (rg (cO (cs:=eL.cells x) rfl rfl fun w1 B1 k1 z1 =>?_))
 have nhP_B1:=aC8 hP.lt
 have lkB1_w:=aDl w.heap.size
 have hS_B1:=hS
 have leB1_wp:=hb.size
 have leB1_w:=aDl w.heap.size
 have nWB1:w.heap.size≠wb:=aDk hS.lt
 have hP:=hP.below k1
 have hS:=hS.below k1
 have m3:KM (·=wb) w w1:=aDr k1
 refine nx (rg (sq (eI rfl (hP.cell 0 rfl)) (sq (yG rfl) (sq (cZ rfl (B1.cell 0 rfl)) (mM rfl fun v4 w4 k4 r4 =>?_)))))
 have hP:=hP.below k4
 have B1:=B1.below k4
 have hS:=hS.below k4
 have m7:=m3.below k4
 refine rN (fst:=[]) (caps:=[]) zU rfl (dZ (a2 rfl rfl)) (gQ wb _ _ _ L [x.job] _ hS r4 (by intro n hn;simp only [aC0,aBy,or_false] at hn;rw [hn];exact hx.job) (by omega)) fun v8 w8 k8 hS =>?_
 have hP:=hP.km k8 hbp
 have B1:=B1.km k8 nWB1
 have m9:KM (·=wb) w w8:=m7 |>.trans k8
 have hL11:=cR L [x.job] 1 rfl
 refine nx (rg (sq (eI rfl (hP.cell 0 rfl)) (sq (Tz rfl) (sq (DB rfl (B1.cell 1 rfl)) (zI rfl fun v12 w12 k12 r12 =>?_)))))
 have hP:=hP.below k12
 have B1:=B1.below k12
 have hS:=hS.below k12
 have m14:=m9.below k12
 refine rN (fst:=[]) (caps:=[]) Ly rfl (dZ (a2 rfl rfl)) (nX wb _ _ _ (L++aR ([x.job].map cB)) [x.out] _ hS r12 (by omega)) fun v15 w15 k15 hS =>?_
 have hP:=hP.km k15 hbp
 have B1:=B1.km k15 nWB1
 have m16:KM (·=wb) w w15:=m14 |>.trans k15
 have hL18:=fE (L++aR ([x.job].map cB)) [x.out] 1 rfl
 refine nx (eO (sq (eI rfl (hP.cell 0 rfl)) (sq (Fk rfl) (sq (cZ rfl (B1.cell 2 rfl)) (sq (Fa rfl) (sq (cZ rfl (B1.cell 3 rfl)) (sq (EJ rfl) (sq (cZ rfl (B1.cell 4 rfl)) (sq (Kf rfl) (sq (cZ rfl (B1.cell 5 rfl)) (Qb rfl rfl rfl rfl fun v19 w19 k19 r19 =>?_)))))))))))
 have hS:=hS.below k19
 have m21:=m16.below k19
 refine rN (fst:=[]) (caps:=[]) zU rfl (dZ (a2 rfl rfl)) (gQ wb _ _ _ ((L++aR ([x.job].map cB))++aR ([x.out].map eH)) [x.size,x.done,x.tries,x.wait] _ hS r19 (by intro n hn;simp only [aC0,aBy,or_false] at hn;rcases hn with rfl | rfl | rfl | rfl;exact hx.size;exact hx.done;exact hx.tries;exact hx.wait) (by omega)) fun v22 w22 k22 hS =>?_
 have m23:KM (·=wb) w w22:=m21 |>.trans k22
 have hL25:=cR ((L++aR ([x.job].map cB))++aR ([x.out].map eH)) [x.size,x.done,x.tries,x.wait] 4 rfl
 exact nl (fV rfl ⟨_,rfl,m23,hS⟩)
def FB (L:List UInt8) (x:cN):List UInt8:=((L++aR ([x.up,x.opn].map eH))++aR ([x.job].map cB))
theorem Tu (wb bp) (wp) (hwb:wb=wp.heap.size) (L) (x) (w) (hb:Below wp.heap.size wp w) (hP:Bk bp [pt wb 0] 147 w) (hbp:bp≠wb) (hS:Wr wb L w) (hx:x.Fit) (hsz:L.length+10000000<=70368744177664):uL wb 92 [.agg (cN.cells x).toArray,pt bp 0] L (FB L x) w:=by
 refine aJ (n:=15) func92 rfl ntmps92 (aA1 rfl) (rg (cO (cs:=cN.cells x) rfl rfl fun w1 B1 k1 z1 =>?_))
 have nhP_B1:=aC8 hP.lt
 have lkB1_w:=aDl w.heap.size
 have hS_B1:=hS
 have leB1_wp:=hb.size
 have leB1_w:=aDl w.heap.size
 have nWB1:w.heap.size≠wb:=aDk hS.lt
 have hP:=hP.below k1
 have hS:=hS.below k1
 have m3:KM (·=wb) w w1:=aDr k1
 refine nx (rg (sq (eI rfl (hP.cell 0 rfl)) (sq (Kp rfl) (sq (DB rfl (B1.cell 0 rfl)) (sq (UG rfl) (sq (DB rfl (B1.cell 1 rfl)) (zR rfl rfl fun v4 w4 k4 r4 =>?_)))))))
 have hP:=hP.below k4
 have B1:=B1.below k4
 have hS:=hS.below k4
 have m7:=m3.below k4
 refine rN (fst:=[]) (caps:=[]) Ly rfl (dZ (a2 rfl rfl)) (nX wb _ _ _ L [x.up,x.opn] _ hS r4 (by omega)) fun v8 w8 k8 hS =>?_
 have hP:=hP.km k8 hbp
 have B1:=B1.km k8 nWB1
 have m9:KM (·=wb) w w8:=m7 |>.trans k8
 have hL11:=fE L [x.up,x.opn] 2 rfl
 refine nx (eO (sq (eI rfl (hP.cell 0 rfl)) (sq (Bg rfl) (sq (cZ rfl (B1.cell 2 rfl)) (mM rfl fun v12 w12 k12 r12 =>?_)))))
 have hS:=hS.below k12
 have m14:=m9.below k12
 refine rN (fst:=[]) (caps:=[]) zU rfl (dZ (a2 rfl rfl)) (gQ wb _ _ _ (L++aR ([x.up,x.opn].map eH)) [x.job] _ hS r12 (by intro n hn;simp only [aC0,aBy,or_false] at hn;rw [hn];exact hx.job) (by omega)) fun v15 w15 k15 hS =>?_
 have m16:KM (·=wb) w w15:=m14 |>.trans k15
 have hL18:=cR (L++aR ([x.up,x.opn].map eH)) [x.job] 1 rfl
 exact nl (fV rfl ⟨_,rfl,m16,hS⟩)
def CL (L:List UInt8) (x:dQ):List UInt8:=((L++cD [x.user])++aR ([x.use].map cB))
theorem QE (wb bp) (wp) (hwb:wb=wp.heap.size) (L) (x) (w) (hb:Below wp.heap.size wp w) (hP:Bk bp [pt wb 0] 147 w) (hbp:bp≠wb) (hS:Wr wb L w) (hx:x.Fit) (hsz:L.length+10000000<=70368744177664):uL wb 94 [.agg (dQ.cells x).toArray,pt bp 0] L (CL L x) w:=by
 refine aJ (n:=13) func94 rfl ntmps94 (aA1 rfl) ?_
 have hxu:=hx.user
 refine rg (cO (cs:=dQ.cells x) rfl rfl fun w1 B1 k1 z1 =>?_)
 have nhP_B1:=aC8 hP.lt
 have lkB1_w:=aDl w.heap.size
 have hS_B1:=hS
 have leB1_wp:=hb.size
 have leB1_w:=aDl w.heap.size
 have nWB1:w.heap.size≠wb:=aDk hS.lt
 have hP:=hP.below k1
 have hS:=hS.below k1
 have m3:KM (·=wb) w w1:=aDr k1
 refine nx (rg (sq (eI rfl (hP.cell 0 rfl)) (sq (Bj rfl) (sq (nY rfl (B1.cell 0 rfl)) (xS rfl fun v4 w4 k4 r4 =>?_)))))
 have hP:=hP.below k4
 have B1:=B1.below k4
 have hS:=hS.below k4
 have m7:=m3.below k4
 refine rN (fst:=[]) (caps:=[]) RH rfl (dZ (a2 rfl rfl)) (pS wb _ _ _ L [x.user] _ hS r4 (by have:=kJ x.user;have:=hx.user;omega)) fun v8 w8 k8 hS =>?_
 have hP:=hP.km k8 hbp
 have B1:=B1.km k8 nWB1
 have m9:KM (·=wb) w w8:=m7 |>.trans k8
 have hL11:=fB L x.user
 refine nx (eO (sq (eI rfl (hP.cell 0 rfl)) (sq (EB rfl) (sq (cZ rfl (B1.cell 1 rfl)) (mM rfl fun v12 w12 k12 r12 =>?_)))))
 have hS:=hS.below k12
 have m14:=m9.below k12
 refine rN (fst:=[]) (caps:=[]) zU rfl (dZ (a2 rfl rfl)) (gQ wb _ _ _ (L++cD [x.user]) [x.use] _ hS r12 (by intro n hn;simp only [aC0,aBy,or_false] at hn;rw [hn];exact hx.use) (by omega)) fun v15 w15 k15 hS =>?_
 have m16:KM (·=wb) w w15:=m14 |>.trans k15
 have hL18:=cR (L++cD [x.user]) [x.use] 1 rfl
 exact nl (fV rfl ⟨_,rfl,m16,hS⟩)
def oR {α:Type} (wf:List UInt8->α->List UInt8) (L:List UInt8) (l:List α):List UInt8:=l.foldl wf (L++aR [l.length])
theorem Bn {α:Type} {wf:List UInt8->α->List UInt8} {l:List α} (hk:k<l.length):(l.take (k+1)).foldl wf E=wf ((l.take k).foldl wf E) l[k]:=by
 rw [aAr hk,List.foldl_append];rfl
theorem qD (E:List UInt8) (n:Nat):(E++aR [n]).length<=E.length+11:=by
 rw [aBh];have:=lJ [n];simp at this;omega
theorem fJ {α:Type} {wf:List UInt8->α->List UInt8} {m:Nat} (L) (l:List α) (h:∀ E x,x∈l->(wf E x).length<=E.length+m):(oR wf L l).length<=L.length+11+l.length*m:=by
 have key:∀ (l:List α) (E:List UInt8),(∀ E x,x∈l->(wf E x).length<=E.length+m)->(l.foldl wf E).length<=E.length+l.length*m:=by
  intro l
  induction l with
  | nil=>intro E _;simp
  | cons x r ih=>
   intro E h
   have h1:=h E x (aBm ..)
   have h2:=ih (wf E x) fun E y hy=>h E y (aA9 _ hy)
   rw [List.foldl_cons,aB3,aDi];omega
 have h1:=qD L l.length
 have h2:=key l (L++aR [l.length]) h
 unfold oR;omega
theorem VJ (n:Nat) (h:n<=1000000):IntKind.u64.wrap (n:Int)=n:=by rw [aCa];omega
theorem Pt {L:List Nat} (hv:Rd 1 w (.slice vb n c) n c (bv B)) (hl:Rd 1 w v1 m mc (uv L)) (hL:∀ x∈L,x<18446744073709551616) (hsz:n+11*m<=70368744177664):Calls prog 77 #[.slice vb n c,v1] w (kR w (B++aR L)):=by
 obtain ⟨b,rfl,hl⟩:=eJ hl
 exact mL hv hl hL hsz
structure CQ {α:Type} (cells:α->List Value):Prop where
abbrev tc {α:Type} {cells:α->List Value} (_:CQ cells) (x:α):List Value:=cells x
structure Vr (e sz:Nat):Prop where
 go:∀ {n:Nat} {g:Nat->Value} {w:World} {dd:Option Tmp} {ty:TypeId} {pos:String} {aft:Array Edge} {gd:Option (Nat × Bool)} {x:Operand} {b o:Nat} {cs:List Value},ev n g x=pt b o->w.rangeAt b o cs->cs.length=sz->aL n g ⟨dd,.load e x,ty,pos,aft,gd⟩ w (.agg cs.toArray)
def ET (e sz:Nat):Prop:=∃ (cs:List Value) (z:Value),(∀ w,(zeroValue e).run prog w=.ok z w)/\z.cells=cs.toArray/\sz=cs.length
def rT (F sz:Nat) {α:Type} (cells:α->List Value):Prop:=∀ (wb:Nat) (wp:World) (hwb:wb=wp.heap.size) (f:FuncId) (fst caps:List Value) (wf:List UInt8->α->List UInt8) (m:Nat) (Inv:World->Prop) (b:Option Addr) (c:Nat) (l:List α) (L:List UInt8) (w:World)
  (ef:EN f) (hSS:Wr wb L w) (hI0:Inv w) (hIk:∀ A B,Inv A->KM (·=wb) A B->Inv B) (hb:Below wp.heap.size wp w) (hv:Rd sz wp (.slice b l.length c) l.length c (l.flatMap cells)) (hN:l.length<=1000000)
  (hlen:∀ E x,x∈l->(wf E x).length<=E.length+m) (hf:∀ E x W,x∈l->Inv W->Below wp.heap.size wp W->Wr wb E W->E.length+m+11<=70368744177664->uL wb f (fst++[.agg (cells x).toArray]++caps) E (wf E x) W) (hsz:L.length+11+l.length*m+11<=70368744177664),uL wb F [pt wb 0,.slice b l.length c,.func (.func f) fst.toArray caps.toArray] L (oR wf L l) w
theorem yP: (CQ aK.cells->prog.funcs[81]? = some Tryz.f81->Tryz.f81.ntmps=30->prog.underlying 67=some (.slice 112)->(∀ w,(sizeOf 112).run prog w=.ok 2 w)->Vr 112 2->(∀ x,(aK.cells x).length=2)->ET 112 2->rT 81 2 aK.cells)/\(CQ dH.cells->prog.funcs[74]? = some Tryz.f74->Tryz.f74.ntmps=30->prog.underlying 30=some (.slice 99)->(∀ w,(sizeOf 99).run prog w=.ok 19 w)->Vr 99 19->(∀ x,(dH.cells x).length=19)->ET 99 19->rT 74 19 dH.cells)/\(CQ dI.cells->prog.funcs[79]? = some Tryz.f79->Tryz.f79.ntmps=30->prog.underlying 33=some (.slice 109)->(∀ w,(sizeOf 109).run prog w=.ok 7 w)->Vr 109 7->(∀ x,(dI.cells x).length=7)->ET 109 7->rT 79 7 dI.cells)/\(CQ bW.cells->prog.funcs[85]? = some Tryz.f85->Tryz.f85.ntmps=30->prog.underlying 34=some (.slice 70)->(∀ w,(sizeOf 70).run prog w=.ok 7 w)->Vr 70 7->(∀ x,(bW.cells x).length=7)->ET 70 7->rT 85 7 bW.cells)/\(CQ jC.cells->prog.funcs[87]? = some Tryz.f87->Tryz.f87.ntmps=30->prog.underlying 68=some (.slice 119)->(∀ w,(sizeOf 119).run prog w=.ok 2 w)->Vr 119 2->(∀ x,(jC.cells x).length=2)->ET 119 2->rT 87 2 jC.cells)/\(CQ eL.cells->prog.funcs[89]? = some Tryz.f89->Tryz.f89.ntmps=30->prog.underlying 35=some (.slice 124)->(∀ w,(sizeOf 124).run prog w=.ok 6 w)->Vr 124 6->(∀ x,(eL.cells x).length=6)->ET 124 6->rT 89 6 eL.cells)/\(CQ cN.cells->prog.funcs[91]? = some Tryz.f91->Tryz.f91.ntmps=30->prog.underlying 36=some (.slice 128)->(∀ w,(sizeOf 128).run prog w=.ok 3 w)->Vr 128 3->(∀ x,(cN.cells x).length=3)->ET 128 3->rT 91 3 cN.cells)/\(CQ dQ.cells->prog.funcs[93]? = some Tryz.f93->Tryz.f93.ntmps=30->prog.underlying 37=some (.slice 132)->(∀ w,(sizeOf 132).run prog w=.ok 2 w)->Vr 132 2->(∀ x,(dQ.cells x).length=2)->ET 132 2->rT 93 2 dQ.cells)/\(CQ lQ.cells->prog.funcs[95]? = some Tryz.f95->Tryz.f95.ntmps=30->prog.underlying 38=some (.slice 140)->(∀ w,(sizeOf 140).run prog w=.ok 11 w)->Vr 140 11->(∀ x,(lQ.cells x).length=11)->ET 140 11->rT 95 11 lQ.cells):=by
 refine ⟨?_,?_,?_,?_,?_,?_,?_,?_,?_⟩ <;> (
  rintro tg hfn hnt hun hso hld hcl ⟨zc,z,hzv,hzc,hzl⟩ wb wp hwb f fst caps wf m Inv b c l L w ef hSS hI0 hIk hb hv hN hlen hf hsz
  obtain ⟨vb,vc,hW,hR⟩:=hSS
  have hwl:=hW.lt
  refine aJ (n:=30) hfn rfl hnt (aA1 rfl) (rg (aN (pt wb (0)) rfl (aN (pt wb (0)) rfl (sq (dF rfl) (sq (jB rfl) (sq (uU rfl (hW.cell 0 rfl)) (aN (.slice b l.length c) rfl (sq (aY hun rfl) (iJ (.int .u64 (l.length:Int)) (pO underlying3 underlying104 rfl) (aD7 (Value.int .u64) (VJ _ hN)) (Ao rfl fun v1 w1 k1 r1 =>?_))))))))))
  have hW:=hW.below k1
  have m2:KM (·=wb) w w1:=aDr k1
  have hws:=(k1).size
  refine cE TT (a2 rfl rfl) (kP (Pt (L:=[l.length]) (hR.below k1) r1 (fun x hx=>by rw [aBj.1 hx];omega) (by have:=aDm (l.length*m);omega))) ?_
  rintro v3 w3 k3 ⟨nb,rfl,hN7,hno⟩
  have hW:=hW.below k3
  have m5:=m2.below k3
  refine sq (dF rfl) (sq (jB rfl) (eP hW sizeOf148 rfl rfl rfl rfl fun w6 hWn O6 z6 =>?_))
  replace hW:=hWn
  have m7:=m5.only O6 (.inl rfl)
  refine nx (rg (aN (.slice b l.length c) rfl (sq (aY hun rfl) (rU (nx ?_)))))
  have hS:Wr wb (L++aR [l.length]) w6:=⟨nb,_,hW,hN7.only O6 (fun e=>by have:=hno _ e;omega)⟩
  have hE0:=qD L l.length
  have hbp9:=aDs m7 hb hb.size (fun i (hi:i=wb)=>by omega)
  refine bD (fun k g W=>g 22=zi ((k:Nat):Int)/\g 21=zi (((l.length:Nat)):Int)/\g 2=.func (.func f) (fst).toArray (caps).toArray/\g 20=.slice b l.length c/\Below wp.heap.size wp W/\(Wr wb ((l.take k).foldl wf (L++aR [l.length])) W/\KM (·=wb) w W/\Inv W/\((l.take k).foldl wf (L++aR [l.length])).length<=L.length+11+k*m)) l.length (by omega) (fun _ _ _ h=>⟨h.1,h.2.1⟩) ⟨rfl,rfl,rfl,rfl,hbp9,⟨hS,m7,hIk _ _ hI0 m7,by simpa using hE0⟩⟩ rfl rfl (fun _ _ _ _ h=>h) ?_ ?_
  ·
   rintro k g8 w8 hk ⟨s22,s21,s2,s20,b8_wp,⟨hS,hkm,hI,hle⟩⟩
   have hkm2:k*m+m<=l.length*m:=by have:=aA6 m hk;rw [aDi] at this;exact this
   obtain ⟨g,o,rfl,hg,hr⟩:=aD5 hv (aBg (aDm _) hk)
   refine rg (sq (bB hun hso s20 s22 hk) (sq (hld.go rfl (cQ _ _ hcl hr hg b8_wp hk) (hcl _)) (eA hzv hzc fun w9 B9 k9 z9 =>?_)))
   have lkB9_w:=hkm.size
   have lkB9_w8:=aDl w8.heap.size
   have hS_B9:=hS
   have leB9_wp:=b8_wp.size
   have leB9_w8:=aDl w8.heap.size
   have nWB9:w8.heap.size≠wb:=aDk hS.lt
   have b10:=aDu b8_wp k9
   have m11:KM (·=wb) w w9:=hkm.below k9
   have m12:KM (·=wb) w8 w9:=aDr k9
   refine bR (vs:=tc tg l[k]) B9 hso rfl rfl rfl hzl fun w13 B9n O13 z13 =>?_
   replace B9:=B9n
   have m14:=m11.only O13 (.inr lkB9_w)
   have m15:=m12.only O13 (.inr lkB9_w8)
   have b16:=aS.toBelow O13 b10 b10.size leB9_wp
   have b17:=aS.toBelow O13 k9 k9.size leB9_w8
   have hS:=hS_B9.below b17
   refine nx (eO (bI s2 (sq (hld.go rfl B9.range (hcl _)) (rN (fst:=fst) (caps:=caps) ef rfl (CT (a1 rfl)) (hf _ l[k] _ (aBz hk) (hIk _ _ hI m15) b16 hS (by omega)) fun v18 w18 k18 hS =>?_))))
   have m19:KM (·=wb) w w18:=m14 |>.trans k18
   have m20:KM (·=wb) w8 w18:=m15 |>.trans k18
   have b21:=aDs k18 b16 b16.size (fun i (hi:i=wb)=>by omega)
   have hL22:=hlen ((l.take k).foldl wf (L++aR [l.length])) l[k] (aBz hk)
   exact nl (dO ⟨⟨rfl,s21,s2,s20,b21,⟨by rw [Bn hk];exact hS,m19,hIk _ _ hI m20,by rw [Bn hk,aDi];have:=hlen ((l.take k).foldl wf (L++aR [l.length])) l[k] (aBz hk);omega⟩⟩,s22⟩)
  ·
   rintro g23 w23 ⟨s22,s21,s2,s20,b23_wp,⟨hS,hkm,hI,hle⟩⟩
   rw [aCb] at hS
   exact fV rfl ⟨_,rfl,hkm,hS⟩)
theorem Qn: rT 81 2 aK.cells:=yP.1 ⟨⟩ func81 ntmps81 underlying67 sizeOf112 ⟨bQ⟩ aK.clen ⟨[aV,aV],_,zeroValue112,rfl,rfl⟩
theorem Xs: rT 74 19 dH.cells:=yP.2.1 ⟨⟩ func74 ntmps74 underlying30 sizeOf99 ⟨IJ⟩ dH.len ⟨ZA,_,zeroValue99,rfl,rfl⟩
theorem Ym: rT 79 7 dI.cells:=yP.2.2.1 ⟨⟩ func79 ntmps79 underlying33 sizeOf109 ⟨AB⟩ dI.len ⟨zl6,_,zeroValue109,rfl,rfl⟩
theorem Xp: rT 85 7 bW.cells:=yP.2.2.2.1 ⟨⟩ func85 ntmps85 underlying34 sizeOf70 ⟨ML⟩ bW.len ⟨RS,_,zeroValue70,rfl,rfl⟩
theorem XV: rT 87 2 jC.cells:=yP.2.2.2.2.1 ⟨⟩ func87 ntmps87 underlying68 sizeOf119 ⟨VH⟩ jC.len ⟨[.string (⟨#[]⟩),aV],_,zeroValue119,rfl,rfl⟩
theorem Yt: rT 89 6 eL.cells:=yP.2.2.2.2.2.1 ⟨⟩ func89 ntmps89 underlying35 sizeOf124 ⟨QN⟩ eL.len ⟨[aV,.bool false,aV,aV,aV,aV],_,zeroValue124,rfl,rfl⟩
theorem YA: rT 91 3 cN.cells:=yP.2.2.2.2.2.2.1 ⟨⟩ func91 ntmps91 underlying36 sizeOf128 ⟨Ku⟩ cN.len ⟨[.bool false,.bool false,aV],_,zeroValue128,rfl,rfl⟩
theorem Xq: rT 93 2 dQ.cells:=yP.2.2.2.2.2.2.2.1 ⟨⟩ func93 ntmps93 underlying37 sizeOf132 ⟨VD⟩ dQ.len ⟨[.string (⟨#[]⟩),aV],_,zeroValue132,rfl,rfl⟩
theorem Yz: rT 95 11 lQ.cells:=yP.2.2.2.2.2.2.2.2 ⟨⟩ func95 ntmps95 underlying38 sizeOf140 ⟨YR⟩ lQ.len ⟨[aV,aV,aV,aV,aV,aV,aV,aV,aV,aV,aV],_,zeroValue140,rfl,rfl⟩
theorem RF (wb) (wp) (hwb:wb=wp.heap.size) (f) (fst caps:List Value) (wf:List UInt8->Int->List UInt8) (m:Nat) (Inv:World->Prop) (b) (c) (l:List Int) (L) (w)
  (ef:EN f) (hSS:Wr wb L w) (hI0:Inv w) (hIk:∀ A B,Inv A->KM (·=wb) A B->Inv B) (hb:Below wp.heap.size wp w) (hv:Rd 1 wp (.slice b l.length c) l.length c (l.flatMap gI)) (hN:l.length<=1000000)
  (hlen:∀ E x,x∈l->(wf E x).length<=E.length+m) (hf:∀ E x W,x∈l->Inv W->Below wp.heap.size wp W->Wr wb E W->E.length+m+11<=70368744177664->uL wb f (fst++[zi x]++caps) E (wf E x) W) (hsz:L.length+11+l.length*m+11<=70368744177664):
  uL wb 83 [pt wb 0,.slice b l.length c,.func (.func f) fst.toArray caps.toArray] L (oR wf L l) w:=by
 obtain ⟨vb,vc,hW,hR⟩:=hSS
 have hwl:=hW.lt
 refine aJ (n:=30) func83 rfl ntmps83 (aA1 rfl) (rg (aN (pt wb (0)) rfl (aN (pt wb (0)) rfl (sq (dF rfl) (sq (jB rfl) (sq (uU rfl (hW.cell 0 rfl)) (aN (.slice b l.length c) rfl (sq (aY underlying39 rfl) (iJ (.int .u64 (l.length:Int)) (pO underlying3 underlying104 rfl) (aD7 (Value.int .u64) (VJ _ hN)) (Ao rfl fun v1 w1 k1 r1 =>?_))))))))))
 have hW:=hW.below k1
 have m2:KM (·=wb) w w1:=aDr k1
 have hws:=(k1).size
 refine cE TT (a2 rfl rfl) (kP (Pt (L:=[l.length]) (hR.below k1) r1 (fun x hx=>by rw [aBj.1 hx];omega) (by have:=aDm (l.length*m);omega))) ?_
 rintro v3 w3 k3 ⟨nb,rfl,hN7,hno⟩
 have hW:=hW.below k3
 have m5:=m2.below k3
 refine sq (dF rfl) (sq (jB rfl) (eP hW sizeOf148 rfl rfl rfl rfl fun w6 hWn O6 z6 =>?_))
 replace hW:=hWn
 have m7:=m5.only O6 (.inl rfl)
 refine nx (rg (aN (.slice b l.length c) rfl (sq (aY underlying39 rfl) (rU (nx ?_)))))
 have hS:Wr wb (L++aR [l.length]) w6:=⟨nb,_,hW,hN7.only O6 (fun e=>by have:=hno _ e;omega)⟩
 have hE0:=qD L l.length
 have hbp9:=aDs m7 hb hb.size (fun i (hi:i=wb)=>by omega)
 refine bD (fun k g W=>g 22=zi ((k:Nat):Int)/\g 21=zi (((l.length:Nat)):Int)/\g 2=.func (.func f) (fst).toArray (caps).toArray/\g 20=.slice b l.length c/\Below wp.heap.size wp W/\(Wr wb ((l.take k).foldl wf (L++aR [l.length])) W/\KM (·=wb) w W/\Inv W/\((l.take k).foldl wf (L++aR [l.length])).length<=L.length+11+k*m)) l.length (by omega) (fun _ _ _ h=>⟨h.1,h.2.1⟩) ⟨rfl,rfl,rfl,rfl,hbp9,⟨hS,m7,hIk _ _ hI0 m7,by simpa using hE0⟩⟩ rfl rfl (fun _ _ _ _ h=>h) ?_ ?_
 ·
  rintro k g8 w8 hk ⟨s22,s21,s2,s20,b8_wp,⟨hS,hkm,hI,hle⟩⟩
  have hkm2:k*m+m<=l.length*m:=by have:=aA6 m hk;rw [aDi] at this;exact this
  obtain ⟨g,o,rfl,hg,hr⟩:=aD5 hv (aBg (aDm _) hk)
  refine rg (sq (bB underlying39 sizeOf2 s20 s22 hk) (sq (cZ rfl (cQ gI 1 jR hr hg b8_wp hk 0 _ rfl)) (aW (zi (l[k])) rfl (nx (eO (bI s2 (aN (zi (l[k])) rfl (rN (fst:=fst) (caps:=caps) ef rfl (CT (a1 rfl)) (hf _ l[k] _ (aBz hk) (hIk _ _ hI (aD8 _ _)) b8_wp hS (by omega)) fun v9 w9 k9 hS =>?_))))))))
  have m10:KM (·=wb) w w9:=hkm |>.trans k9
  have m11:KM (·=wb) w8 w9:=aD8 _ _ |>.trans k9
  have b12:=aDs k9 b8_wp b8_wp.size (fun i (hi:i=wb)=>by omega)
  have hL13:=hlen ((l.take k).foldl wf (L++aR [l.length])) l[k] (aBz hk)
  exact nl (dO ⟨⟨rfl,s21,s2,s20,b12,⟨by rw [Bn hk];exact hS,m10,hIk _ _ hI m11,by rw [Bn hk,aDi];have:=hlen ((l.take k).foldl wf (L++aR [l.length])) l[k] (aBz hk);omega⟩⟩,s22⟩)
 ·
  rintro g14 w14 ⟨s22,s21,s2,s20,b14_wp,⟨hS,hkm,hI,hle⟩⟩
  rw [aCb] at hS
  exact fV rfl ⟨_,rfl,hkm,hS⟩
def phL:List ByteArray:=[⟨#[]⟩,⟨#[119,97,105,116]⟩,⟨#[105,110]⟩,⟨#[114,101,97,100,121]⟩,⟨#[114,117,110]⟩,⟨#[107,101,101,112]⟩,⟨#[111,117,116]⟩,⟨#[100,111,110,101]⟩,⟨#[98,97,100]⟩,⟨#[103,111,110,101]⟩,⟨#[108,97,116,101]⟩]
def Nt (p:Nat):ByteArray:=phL.getD p ⟨#[]⟩
def nE (w:World):Prop:=∀ i,i<11->w.cell? ⟨1,i,none⟩=some (.string (Nt i))
theorem nE.below (h:nE w) (k:Below w.heap.size w w'):nE w':=fun i hi=>aDy k (h i hi)
theorem XD: prog.underlying 291=some (.array 11 9):=by kernel_rfl
section
variable {n:Nat} {g:Nat->Value} {w:World} {dd:Option Tmp} {t ty:TypeId} {pos:String} {aft:Array Edge} {gd:Option (Nat × Bool)} {x y:Operand}
theorem ZP {e sz len b o i:Nat} {k:IntKind} (hu:prog.underlying t=some (.array len e)) (hs:∀ w,(sizeOf e).run prog w=.ok sz w) (hx:ev n g x=pt b o) (hi:ev n g y=.int k (i:Int)) (hlt:i<len):aL n g ⟨dd,.indexAddr t x y,ty,pos,aft,gd⟩ w (pt b (o+i*sz)):=by
 unfold aL execOp
 simp [hx,hi,Instr.indexAt,asIntOf,run_underlying hu,hs,hlt,aDf,Instr.sureAddr,pt]
end
theorem Yb (p:Nat) (h:p<=255):IntKind.i64.wrap (p:Int)=p:=by
 unfold IntKind.wrap;simp [IntKind.bits,IntKind.signed];omega
theorem TZ (h:11<=p):Nt p=⟨#[]⟩:=by
 unfold Nt;rw [List.getD_eq_getElem?_getD,List.getElem?_eq_none (by show 11<=p;exact h)];rfl
theorem Oc (p:Nat) (hp:p<=255) (w:World) (hPh:nE w):cT 154 [.int .u8 (p:Int)] w fun v _=>v=.string (Nt p):=by
 refine aJ (n:=9) func154 rfl ntmps154 (aA1 rfl) (rg (bU (nx (aF (rg (aN (.int .u8 (p:Int)) rfl (iJ (zi (p:Int)) (pO underlying5 underlying3 rfl) (aD7 (Value.int .i64) (Yb p hp)) (sq (nU rfl rfl) (nx ?_)))))))))
 refine cd rfl (fun c1=>?_) (fun c1=>?_)
 ·
  refine rg (bU (nx (aE ?_)))
  exact bT (R:=fun v _=>v=.string (Nt p)) rfl (aDt _ _) (aD6 (b:=(.string (⟨#[]⟩):Value)) rfl (aD7 Value.string (TZ (by have:=aBp c1;omega)).symm))
 ·
  refine aG (rg (aN (.int .u8 (p:Int)) rfl (sq (ZP XD sizeOf9 rfl rfl (by have:=aBe c1;omega)) (sq (nY rfl (by have:=(hPh.below (aDt _ _)) p (by have:=aBe c1;omega);rwa [aDa,Nat.mul_one])) (aW (.string (Nt p)) rfl (nx (aE ?_)))))))
  refine bT (R:=fun v _=>v=.string (Nt p)) rfl (aDt _ _) (aD6 (b:=(.string (Nt p):Value)) rfl ?_)
  rfl
structure dH.Fit (K:Nat->ByteArray) (x:dH):Prop where
 slip:mX K x.slip.c
 phase:x.phase<=255
 inc:jO x.inc
 at_:jO x.at_
 ran:jO x.ran
def Bw (x:dH) (p:Int × Bool):Bool:=decide ((x.id:Int)<=(p.1:Int))
theorem TB (x:dH) (p:Int × Bool) (w) (bj) (hB:Bk bj (dH.cells x) 99 w):cT 153 [.agg (nD p).toArray,pt bj 0] w fun v _=>v=.bool (Bw x p):=by
 refine aJ (n:=9) func153 rfl ntmps153 (aA1 rfl) (rg (cO (cs:=nD p) rfl rfl fun w1 B1 k1 z1 =>?_))
 have nhB_B1:=aC8 hB.lt
 have leB1:=aDl w.heap.size
 have hB:=hB.below k1
 exact bU (nx (rg (sq (Ef rfl) (sq (cZ rfl (B1.cell 0 rfl)) (sq (vN rfl) (sq (cZ rfl (hB.cell 0 rfl)) (sq (nU rfl rfl) (aW (.bool (decide ((x.id:Int)<=(p.1:Int)))) rfl (nx (aE (bT rfl k1 rfl)))))))))))
def Fm (K:Nat->ByteArray) (x:dH):Bool:=((((((((((decide ((1:Int)<=(x.id:Int)))&&(decide ((x.id:Int)<=(1073741824:Int))))&&(decide ((cA 150 (bL K x.slip.c):Int)=(0:Int))))&&(!decide ((Nt x.phase)=(⟨#[]⟩))))&&(decide ((0:Int)<=(x.inc:Int))))&&(decide ((x.inc:Int)<=(3:Int))))&&(decide ((x.at_:Int)=(iH x.at_:Int))))&&(decide ((x.ran:Int)=(iH x.ran:Int))))&&((!(x.hold))||(decide (((x.phase:Int):Int)=(1:Int)))))&&(x.good == ((decide (((x.phase:Int):Int)=(7:Int)))||(x.good&&((decide (((x.phase:Int):Int)=(5:Int)))||(decide (((x.phase:Int):Int)=(6:Int))))))))&&(!(x.slip.c.after.any (Bw x)))
theorem UC (K:Nat->ByteArray) (x:dH) (w) (hE:rI K w) (hPh:nE w) (hx:x.Fit K) (ha:x.slip.At w):cT 102 [.agg (dH.cells x).toArray] w fun v _=>v=.bool (Fm K x):=by
 refine aJ (n:=93) func102 rfl ntmps102 (aA1 rfl) (rg (cO (cs:=dH.cells x) rfl rfl fun w1 B1 k1 z1 =>?_))
 have leB1:=aDl w.heap.size
 refine bU (nx ?_)
 refine sQ (_::_::_::_::_::_::_::_::_::_::_::_::_::_::_::_::_::_::[]) [(17,3)] [1,2] rfl ⟨aA,aA,aA,aA,aD aA,aD aA,aD aA,aD aA,aD aA,aD aA,aD aA,aD aA,aD aA,aD aA,aD aA,aD aA,aA,aA,trivial⟩ (by kernel_rfl) rfl rfl rfl (fun S=>⟨
  jA 1 S rfl fun q=>tC q,
  fY [0] S rfl fun hT h=>Nr h.1 ((B1.below hT).cell 13 rfl),
  aP [1] S rfl fun h=>eZ h.1 rfl,
  oW [(2,7)] [] S rfl fun _ _ _ h _=>dv aT h.1,
  fW 1 S rfl fun e q=>Es q,
  cK [4] S rfl fun e hT h=>DB (h.1.1 e) ((B1.below hT).cell 14 rfl),
  oF [(5,10)] [] S rfl i2 gU fun e _ _ _ h _=>dv aT (mY e (h.1.1 e)),
  AZ [] [1] S rfl i2 gU fun e _ _ _ _ q=>dv (tC q.1) (mY e rfl),
  rX [7] S rfl fun e hT h=>Nr (h.1.1 e) ((B1.below hT).cell 13 rfl),
  rX [8] S rfl fun e _ h=>eZ (h.1.1 e) rfl,
  AZ [(9,14)] [] S rfl i2 gU fun e _ _ _ h _=>dv aT (mY e (h.1.1 e)),
  VF [] [1] S rfl i2 gU fun e _ _ _ _ q=>dv (tC q.1) (mY e rfl),
  VF [(11,16)] [] S rfl i2 gU fun e _ _ hT h _=>dv (Nr (h.1.1 e) ((B1.below hT).cell 13 rfl)) (mY e rfl),
  VF [(12,17)] [] S rfl i2 gU fun e _ _ _ h _=>dv (eZ (h.1.1 e) rfl) (mY e rfl),
  rX [10,13] S rfl fun e _ h=>dA (h.1.1 e) (fun c=>h.2.1.1 (aa e (tn c))),
  cK [6,14] S rfl fun e _ h=>cG (h.1.1 e) (fun c=>h.2.1.1 (aa e c)),
  aP [3,15] S rfl fun h=>dA h.1 (fun c=>h.2.1.1 (tn c)),
  oW [(16,21)] [] S rfl fun _ _ _ h _=>dv kC h.1,
  trivial⟩) ?_
 rintro g2 w2 k2 ⟨s3,-⟩ ⟨o1,o2,-⟩
 have s1:g2 1=pt w.heap.size (0):=o1.trans rfl
 have s2:g2 2=.bool false:=o2.trans rfl
 have b3:=aDu k1 k2
 have B1:=B1.below k2
 refine rg (sq (Ed s1) (sq (vL rfl) (sq (MS rfl (B1.cell 5 rfl)) (sq (Aa s1) (cE Wo (a2 rfl rfl) (KD 153 [pt w.heap.size 0] (Bw x) x.slip.ab x.slip.ac x.slip.c.after _ YM (by have:=hx.slip.afterN;omega) (ha.after.below b3) (fun W d hW _=>TB x d W _ (B1.below hW))) ?_)))))
 rintro _ w4 k4 rfl
 have b5:=aDu b3 k4
 have B1:=B1.below k4
 refine aW (.bool (x.slip.c.after.any (Bw x))) rfl (nx ?_)
 refine sD (_::_::_::_::_::_::_::_::_::_::_::(GV ((decide ((1:Int)<=(x.id:Int)))&&(decide ((x.id:Int)<=(1073741824:Int)))) (vE (zi (cA 150 (bL K x.slip.c)))))::_::_::_::_::_::(GV (((decide ((1:Int)<=(x.id:Int)))&&(decide ((x.id:Int)<=(1073741824:Int))))&&(decide ((cA 150 (bL K x.slip.c):Int)=(0:Int)))) (vE (.string (Nt x.phase))))::_::_::_::_::_::_::_::_::_::_::_::_::_::_::_::_::_::(GV ((((((decide ((1:Int)<=(x.id:Int)))&&(decide ((x.id:Int)<=(1073741824:Int))))&&(decide ((cA 150 (bL K x.slip.c):Int)=(0:Int))))&&(!decide ((Nt x.phase)=(⟨#[]⟩))))&&(decide ((0:Int)<=(x.inc:Int))))&&(decide ((x.inc:Int)<=(3:Int)))) (vE (zi (iH x.at_))))::_::_::_::_::_::_::_::(GV (((((((decide ((1:Int)<=(x.id:Int)))&&(decide ((x.id:Int)<=(1073741824:Int))))&&(decide ((cA 150 (bL K x.slip.c):Int)=(0:Int))))&&(!decide ((Nt x.phase)=(⟨#[]⟩))))&&(decide ((0:Int)<=(x.inc:Int))))&&(decide ((x.inc:Int)<=(3:Int))))&&(decide ((x.at_:Int)=(iH x.at_:Int)))) (vE (zi (iH x.ran))))::_::_::_::_::_::_::_::_::_::_::_::_::_::_::_::_::_::_::_::_::_::_::_::[]) [(66,2)] [] rfl ⟨aA,aA,aA,aA,aD aA,aD aA,aD aA,aA,aA,aD aA,aD aA,aD aA,aD aA,aA,aA,aD aA,aD aA,aD aA,aD aA,aA,aA,aD aA,aD aA,aD aA,aA,aA,aD aA,aD aA,aD aA,aA,aA,aD aA,aD aA,aD aA,aD aA,aD aA,aD aA,aA,aA,aD aA,aD aA,aD aA,aD aA,aD aA,aD aA,aA,aA,aD aA,aD aA,aD aA,aD aA,aD aA,aD aA,aD aA,aD aA,aA,aA,aD aA,aD aA,aD aA,aD aA,aA,aA,aD aA,aD aA,aA,aA,trivial⟩ (by kernel_rfl) rfl rfl (fun S=>⟨
  jA 1 S rfl fun q=>vN (q.trans s1),
  fY [0] S rfl fun hT h=>cZ h.1 ((B1.below hT).cell 0 rfl),
  aP [1] S rfl fun h=>nU h.1 rfl,
  oW [(2,29)] [] S rfl fun _ _ _ h _=>dv aT h.1,
  qI 1 S rfl fun e q=>vN (q.trans s1),
  dM [4] S rfl fun e hT h=>cZ (h.1.1 e) ((B1.below hT).cell 0 rfl),
  dM [5] S rfl fun e _ h=>xV (h.1.1 e) rfl,
  aP [3,6] S rfl fun h=>cG h.1 (fun c=>h.2.1.1 c),
  oW [(7,34)] [] S rfl fun _ _ _ h _=>dv aT h.1,
  qI 1 S rfl fun e q=>Ed (q.trans s1),
  dM [9] S rfl fun e hT h=>IK (h.1.1 e) ((B1.below hT).part (o:=1) (sub:=[.string x.slip.c.user,zi x.slip.c.nodes,zi x.slip.c.wall,zi x.slip.c.qos,.slice x.slip.ab x.slip.c.after.length x.slip.ac,zi x.slip.c.cap,zi x.slip.c.inn,zi x.slip.c.out,.string x.slip.c.pool,.slice x.slip.mb x.slip.c.make.length x.slip.mc,.slice x.slip.db x.slip.c.drop.length x.slip.dc,.slice x.slip.ub x.slip.c.use.length x.slip.uc]) rfl) rfl,
  oT [(10,37)] [] S rfl i2 gU fun e _ _ hT h _=>dG e (gV (a1 (h.1.1 e)) PP (wE K x.slip _ (hE.below (aDu b5 hT)) (ha.below (aDu b5 hT)) hx.slip)),
  dM [11] S rfl fun e _ h=>eZ (h.1.1 e) rfl,
  aP [8,12] S rfl fun h=>cG h.1 (fun c=>h.2.1.1 c),
  oW [(13,40)] [] S rfl fun _ _ _ h _=>dv aT h.1,
  qI 1 S rfl fun e q=>tC (q.trans s1),
  dM [15] S rfl fun e hT h=>Nr (h.1.1 e) ((B1.below hT).cell 13 rfl),
  oT [(16,43)] [] S rfl i2 gU fun e _ _ hT h _=>dG e (gV (a1 (h.1.1 e)) Zv (Oc x.phase hx.phase _ (hPh.below (aDu b5 hT)))),
  dM [17] S rfl fun e _ h=>NF (h.1.1 e) rfl,
  aP [14,18] S rfl fun h=>cG h.1 (fun c=>h.2.1.1 c),
  oW [(19,46)] [] S rfl fun _ _ _ h _=>dv aT h.1,
  qI 1 S rfl fun e q=>EA (q.trans s1),
  dM [21] S rfl fun e hT h=>cZ (h.1.1 e) ((B1.below hT).cell 16 rfl),
  dM [22] S rfl fun e _ h=>nU (h.1.1 e) rfl,
  aP [20,23] S rfl fun h=>cG h.1 (fun c=>h.2.1.1 c),
  oW [(24,51)] [] S rfl fun _ _ _ h _=>dv aT h.1,
  qI 1 S rfl fun e q=>EA (q.trans s1),
  dM [26] S rfl fun e hT h=>cZ (h.1.1 e) ((B1.below hT).cell 16 rfl),
  dM [27] S rfl fun e _ h=>xV (h.1.1 e) rfl,
  aP [25,28] S rfl fun h=>cG h.1 (fun c=>h.2.1.1 c),
  oW [(29,56)] [] S rfl fun _ _ _ h _=>dv aT h.1,
  qI 1 S rfl fun e q=>Fe (q.trans s1),
  dM [31] S rfl fun e hT h=>cZ (h.1.1 e) ((B1.below hT).cell 17 rfl),
  qI 1 S rfl fun e q=>Fe (q.trans s1),
  dM [33] S rfl fun e hT h=>cZ (h.1.1 e) ((B1.below hT).cell 17 rfl),
  oT [(34,61)] [] S rfl i2 gU fun e _ _ _ h _=>dG e (gV (a1 (h.1.1 e)) GU (AQ (gL x.at_ _ (hx.at_).1 (hx.at_).2))),
  dM [32,35] S rfl fun e _ h=>eZ (h.1.1 e) (h.2.1.1 e),
  aP [30,36] S rfl fun h=>cG h.1 (fun c=>h.2.1.1 c),
  oW [(37,64)] [] S rfl fun _ _ _ h _=>dv aT h.1,
  qI 1 S rfl fun e q=>Ff (q.trans s1),
  dM [39] S rfl fun e hT h=>cZ (h.1.1 e) ((B1.below hT).cell 18 rfl),
  qI 1 S rfl fun e q=>Ff (q.trans s1),
  dM [41] S rfl fun e hT h=>cZ (h.1.1 e) ((B1.below hT).cell 18 rfl),
  oT [(42,69)] [] S rfl i2 gU fun e _ _ _ h _=>dG e (gV (a1 (h.1.1 e)) GU (AQ (gL x.ran _ (hx.ran).1 (hx.ran).2))),
  dM [40,43] S rfl fun e _ h=>eZ (h.1.1 e) (h.2.1.1 e),
  aP [38,44] S rfl fun h=>cG h.1 (fun c=>h.2.1.1 c),
  oW [(45,72)] [] S rfl fun _ _ _ h _=>dv aT h.1,
  qI 1 S rfl fun e q=>Ip (q.trans s1),
  dM [47] S rfl fun e hT h=>DB (h.1.1 e) ((B1.below hT).cell 15 rfl),
  dM [48] S rfl fun e _ h=>cJ (h.1.1 e),
  oT [(49,76)] [] S rfl i2 gU fun e _ _ _ h _=>dv aT (mY e (h.1.1 e)),
  VF [] [1] S rfl i2 gU fun e _ _ _ _ q=>dv (tC (q.1.trans s1)) (mY e rfl),
  VF [(51,78)] [] S rfl i2 gU fun e _ _ hT h _=>dv (Nr (h.1.1 e) ((B1.below hT).cell 13 rfl)) (mY e rfl),
  VF [(52,79)] [] S rfl i2 gU fun e _ _ _ h _=>dv (eZ (h.1.1 e) rfl) (mY e rfl),
  dM [50,53] S rfl fun e _ h=>dA (h.1.1 e) (fun c=>h.2.1.1 (aa e (tn c))),
  aP [46,54] S rfl fun h=>cG h.1 (fun c=>h.2.1.1 c),
  oW [(55,82)] [] S rfl fun _ _ _ h _=>dv aT h.1,
  qI 1 S rfl fun e q=>Es (q.trans s1),
  dM [57] S rfl fun e hT h=>DB (h.1.1 e) ((B1.below hT).cell 14 rfl),
  iP S rfl s3,
  dM [58,59] S rfl fun e _ h=>r_beq underlying4 (h.1.1 e) (h.2.1.1 e),
  aP [56,60] S rfl fun h=>cG h.1 (fun c=>h.2.1.1 c),
  oW [(61,88)] [] S rfl fun _ _ _ h _=>dv aT h.1,
  iP S rfl rfl,
  dM [63] S rfl fun e _ h=>cJ (h.1.1 e),
  aP [62,64] S rfl fun h=>cG h.1 (fun c=>h.2.1.1 c),
  oW [(65,92)] [] S rfl fun _ _ _ h _=>dv kC h.1,
  trivial⟩) ?_
 rintro g6 w6 k6 ⟨s2,-⟩ -
 have b7:=aDu b5 k6
 exact aE (bT rfl b7 s2)
def wG (K:Nat->ByteArray) (next:Int) (p s:dH) (k:Nat):Bool:=((!(Fm K s))||(decide ((next:Int)<=(s.id:Int))))||((decide ((0:Int)<((k:Nat):Int)))&&(decide ((s.id:Int)<=(p.id:Int))))
def wV (next:Int) (L:List dH):Bool:=(((decide ((next:Int)<(1:Int)))||(decide ((1073741825:Int)<(next:Int))))||(decide ((64:Int)<((((L.filter pF).length:Nat):Int):Int))))||(decide ((64:Int)<((((L.length:Nat):Int):Int) - ((((L.filter pF).length:Nat):Int):Int):Int)))
def dS (K:Nat->ByteArray) (next:Int) (L:List dH):Bool:=(List.range L.length).all (fun k=>!wG K next (L[k - 1]!) (L[k]!) k)&&!wV next L
theorem OA {K:Nat->ByteArray} {next:Int} {L:List dH} (hk:k<L.length) (h:wG K next (L[k - 1]'(aBg (aDv _ _) hk)) L[k] k=true):dS K next L=false:=Bd (bad:=wG K next) hk h
theorem OM {K:Nat->ByteArray} {next:Int} {L:List dH} (h:wV next L=true):dS K next L=false:=by unfold dS;rw [h];simp
theorem Pp {K:Nat->ByteArray} {next:Int} {L:List dH} (hP:(List.range L.length).all (fun k=>!wG K next (L[k - 1]!) (L[k]!) k)=true) (h:wV next L=false):dS K next L=true:=by unfold dS;rw [hP,h];rfl
theorem Jc (K:Nat->ByteArray) (next:Int) (jb) (jc) (L:List dH) (w) (hE:rI K w) (hPh:nE w) (hN:L.length<=1000000) (hv:Rd 19 w (.slice jb L.length jc) L.length jc (L.flatMap dH.cells)) (hf:∀ j∈L,j.Fit K) (hl:∀ j∈L,j.slip.At w):cT 28 [.agg [zi next,.slice jb L.length jc].toArray] w fun v _=>v=zi (cA 230 (dS K next L)):=by
 refine aJ (n:=63) func28 rfl ntmps28 (aA1 rfl) (rg (cO (cs:=[zi next,.slice jb L.length jc]) rfl rfl fun w1 B1 k1 z1 =>?_))
 have leB1:=aDl w.heap.size
 refine bU (nx (aF (rg (sq (qN rfl) (sq (Gr rfl (B1.cell 1 rfl)) (sq (aY underlying30 rfl) (rU (nx ?_))))))))
 refine bD (fun k g W=>g 9=zi ((k:Nat):Int)/\g 8=zi (((L.length:Nat)):Int)/\g 1=pt w.heap.size (0)/\g 2=zi (0)/\g 7=.slice jb L.length jc/\Bk w.heap.size ([zi next,.slice jb L.length jc]) 32 W/\Below w.heap.size w W/\((List.range k).all (fun k=>!wG K next (L[k - 1]!) (L[k]!) k)=true)) L.length (by omega) (fun _ _ _ h=>⟨h.1,h.2.1⟩) ⟨rfl,rfl,rfl,rfl,rfl,B1,k1,rfl⟩ rfl rfl (fun _ _ _ _ h=>h) ?_ ?_
 ·
  rintro k g2 w2 hk ⟨s9,s8,s1,s2,s7,B1,b2,hP⟩
  obtain ⟨g,o,rfl,hg,hr⟩:=aD5 hv (aBg (aDm _) hk)
  refine rg (bI s9 (sq (bB underlying30 sizeOf99 s7 s9 hk) (sq (IJ rfl (cQ dH.cells 19 dH.len hr hg b2 hk) rfl) (eA (cs:=ZA) zeroValue99 rfl fun w3 B3 k3 z3 =>?_))))
  have nB1_B3:=aC8 B1.lt
  have leB3:=b2.size
  have b4:=aDu b2 k3
  have B1:=B1.below k3
  refine aW (zi (k:Nat)) rfl (bR (vs:=dH.cells L[k]) B3 sizeOf99 rfl rfl rfl rfl fun w5 B3n O5 z5 =>?_)
  replace B3:=B3n
  have b6:=aS.toBelow O5 b4 b4.size leB3
  have B1:=B1.only O5 nB1_B3
  refine nx ?_
  refine sD (_::(vE (.bool (Fm K L[k])))::_::_::_::_::_::_::_::_::_::_::_::_::_::_::_::_::_::_::_::_::_::_::_::_::[]) [(25,39)] [1,2,7,8,9] rfl ⟨aA,aA,aA,aA,aD aA,aD aA,aD aA,aD aA,aD aA,aA,aA,aD aA,aD aA,aD aA,aD aA,aD aA,aD aA,aD aA,aD aA,aD aA,aD aA,aD aA,aD aA,aD aA,aD aA,aA,trivial⟩ (by kernel_rfl) rfl rfl (fun S=>⟨
   iG 4 S rfl fun hT q=>IJ q ((B3.below hT).range) rfl,
   oW [(0,14)] [] S rfl fun _ _ hT h _=>gV (a1 h.1) aAf (UC K L[k] _ (hE.below (aDu b6 hT)) (hPh.below (aDu b6 hT)) (hf _ (aBz hk)) ((hl _ (aBz hk)).below (aDu b6 hT))),
   aP [1] S rfl fun h=>cJ h.1,
   oW [(2,16)] [] S rfl fun _ _ _ h _=>dv aT h.1,
   fW 4 S rfl fun e q=>vN q,
   cK [4] S rfl fun e hT h=>cZ (h.1.1 e) ((B3.below hT).cell 0 rfl),
   fW 1 S rfl fun e q=>wA (q.trans s1),
   cK [6] S rfl fun e hT h=>cZ (h.1.1 e) ((B1.below hT).cell 0 rfl),
   cK [5,7] S rfl fun e _ h=>nU (h.1.1 e) (h.2.1.1 e),
   aP [3,8] S rfl fun h=>dA h.1 (fun c=>h.2.1.1 (tn c)),
   oW [(9,23)] [] S rfl fun _ _ _ h _=>dv aT h.1,
   tW S rfl rfl,
   cK [11] S rfl fun e _ h=>gH (h.1.1 e) rfl,
   oF [(12,26)] [] S rfl i2 gU fun e _ _ _ h _=>dv aT (mY e (h.1.1 e)),
   AZ [] [1] S rfl i2 gU fun e _ _ _ _ q=>dv (qN (q.1.trans s1)) (mY e rfl),
   rX [14] S rfl fun e hT h=>Gr (h.1.1 e) ((B1.below hT).cell 1 rfl),
   AZ [] [3] S rfl i2 gU fun e _ _ _ _ q=>dv aT (mY e q.1),
   rX [16] S rfl fun e _ h=>Gz (h.1.1 e) rfl (by have:=aBp (ar e);omega),
   rX [15,17] S rfl fun e _ h=>bB underlying30 sizeOf99 (h.1.1 e) (h.2.1.1 e) (aBg (aDv _ _) hk),
   rX [18] S rfl fun e _ h=>vN (h.1.1 e),
   rX [19] S rfl fun e hT h=>cZ (h.1.1 e) (cQ dH.cells 19 dH.len hr hg (aDu b6 hT) (aBg (aDv _ _) hk) 0 _ rfl),
   AZ [] [4] S rfl i2 gU fun e _ _ _ _ q=>dv (vN q.1) (mY e rfl),
   rX [21] S rfl fun e hT h=>cZ (h.1.1 e) ((B3.below hT).cell 0 rfl),
   rX [20,22] S rfl fun e _ h=>nU (h.1.1 e) (h.2.1.1 e),
   cK [13,23] S rfl fun e _ h=>cG (h.1.1 e) (fun c=>h.2.1.1 (aa e c)),
   aP [10,24] S rfl fun h=>dA h.1 (fun c=>h.2.1.1 (tn c)),
   trivial⟩) ?_
  rintro g7 w7 k7 ⟨s39,-⟩ ⟨o1,o2,o7,o8,o9,-⟩
  have s1:=o1.trans s1
  have s2:=o2.trans s2
  have s7:=o7.trans s7
  have s8:=o8.trans s8
  have s9:=o9.trans s9
  have b8:=aDu b6 k7
  have B1:=B1.below k7
  refine cd s39 (fun c9=>?_) (fun c9=>?_)
  ·
   refine rg (bU (nx (aE ?_)))
   exact bT (R:=fun v _=>v=zi (cA 230 (dS K next L))) rfl b8 (aD6 (b:=(zi (230):Value)) rfl (aD7 (Value.int .i64) (oH (n:=230) (b:=dS K next L) (OA hk c9)).symm))
  ·
   exact aG (dO ⟨⟨rfl,s8,s1,s2,s7,B1,b8,Ej (bad:=wG K next) hk hP c9⟩,s9⟩)
 ·
  rintro g10 w10 ⟨s9,s8,s1,s2,s7,B1,b10,hP⟩
  refine rg (sq (PU s1 B1.range rfl) (cE en103 (a1 rfl) (Mw next jb jc L _ hN (hv.below b10)) ?_))
  rintro _ w11 k11 rfl
  have b12:=aDu b10 k11
  have B1:=B1.below k11
  refine aW (zi (((L.filter pF).length:Nat):Int)) rfl (nx (aF ?_))
  refine sQ (_::_::_::_::_::_::_::_::_::_::_::_::_::_::_::_::_::_::_::_::[]) [(19,62)] [2] rfl ⟨aA,aA,aA,aA,aD aA,aD aA,aD aA,aA,aA,aD aA,aD aA,aA,aA,aD aA,aD aA,aD aA,aD aA,aD aA,aD aA,aA,trivial⟩ (by kernel_rfl) rfl rfl rfl (fun S=>⟨
   jA 1 S rfl fun q=>wA (q.trans s1),
   fY [0] S rfl fun hT h=>cZ h.1 ((B1.below hT).cell 0 rfl),
   aP [1] S rfl fun h=>eT h.1 rfl,
   oW [(2,45)] [] S rfl fun _ _ _ h _=>dv aT h.1,
   fW 1 S rfl fun e q=>wA (q.trans s1),
   cK [4] S rfl fun e hT h=>cZ (h.1.1 e) ((B1.below hT).cell 0 rfl),
   cK [5] S rfl fun e _ h=>gH (h.1.1 e) rfl,
   aP [3,6] S rfl fun h=>dA h.1 (fun c=>h.2.1.1 (tn c)),
   oW [(7,50)] [] S rfl fun _ _ _ h _=>dv aT h.1,
   tW S rfl rfl,
   cK [9] S rfl fun e _ h=>gH (h.1.1 e) rfl,
   aP [8,10] S rfl fun h=>dA h.1 (fun c=>h.2.1.1 (tn c)),
   oW [(11,54)] [] S rfl fun _ _ _ h _=>dv aT h.1,
   fW 1 S rfl fun e q=>qN (q.trans s1),
   cK [13] S rfl fun e hT h=>Gr (h.1.1 e) ((B1.below hT).cell 1 rfl),
   cK [14] S rfl fun e _ h=>aY underlying30 (h.1.1 e),
   tW S rfl rfl,
   cK [15,16] S rfl fun e _ h=>tB (h.1.1 e) (h.2.1.1 e) (⟨by have:=aA4 pF L;omega,by have:=aA4 pF L;omega⟩),
   cK [17] S rfl fun e _ h=>gH (h.1.1 e) rfl,
   aP [12,18] S rfl fun h=>dA h.1 (fun c=>h.2.1.1 (tn c)),
   trivial⟩) ?_
  rintro g13 w13 k13 ⟨s62,-⟩ ⟨o2,-⟩
  have b14:=aDu b12 k13
  refine cd s62 (fun c15=>?_) (fun c15=>?_)
  ·
   refine rg (bU (nx (aE ?_)))
   exact bT (R:=fun v _=>v=zi (cA 230 (dS K next L))) rfl b14 (aD6 (b:=(zi (230):Value)) rfl (aD7 (Value.int .i64) (oH (n:=230) (b:=dS K next L) (OM c15)).symm))
  ·
   refine aG (rg (bU (nx (aE ?_))))
   exact bT (R:=fun v _=>v=zi (cA 230 (dS K next L))) rfl b14 (aD6 (b:=(zi (0):Value)) rfl (aD7 (Value.int .i64) (uH (n:=230) (b:=dS K next L) (Pp hP c15)).symm))
theorem KF {a b:Int} (ha:0<=a) (hb:0<b):0<=a.tmod b/\a.tmod b<=a:=by
 rw [Int.tmod_eq_emod_of_nonneg ha]
 have h1:=Int.emod_nonneg a (show b≠0 by omega)
 have h2:=Int.emod_add_mul_ediv a b
 have h3:0<=b*(a / b):=Int.mul_nonneg (by omega) (Int.ediv_nonneg ha (by omega))
 omega
theorem bd70 {g:Nat->Value} {ty:TypeId}    : aL n g ⟨dd,.build 70 #[],ty,pos,aft,gd⟩ w (.agg RS.toArray):=
 iA (ps:=[]) (by simp only [aC3,aDb];kernel_rfl)
theorem oQ {g:Nat->Value} {ty:TypeId} {a1:Int} {a2:Int} {a3:Int} {a4:Bool} (h0:ev n g x0=zi a1) (h1:ev n g x1=zi a2) (h2:ev n g x2=zi a3) (h3:ev n g x3=.bool a4):aL n g ⟨dd,.build 70 #[(0,x0),(1,x1),(2,x2),(4,x3)],ty,pos,aft,gd⟩ w (.agg [zi a1,zi a2,zi a3,.bool false,.bool a4,cP,cP].toArray):=
 iA (ps:=[(0,x0),(1,x1),(2,x2),(4,x3)]) (by simp only [aC3,aDb,h0,h1,h2,h3];kernel_rfl)
theorem GQ {g:Nat->Value} {ty:TypeId} {a1:Int} (h0:ev n g x0=zi a1):aL n g ⟨dd,.build 112 #[(1,x0)],ty,pos,aft,gd⟩ w (.agg [aV,zi a1].toArray):=
 iA (ps:=[(1,x0)]) (by simp only [aC3,aDb,h0];kernel_rfl)
def Cq (size grain quota:Int):Bool:=!((!([size,grain,quota].all bC))||(decide ((grain:Int)<(1:Int))))
theorem Kt {size grain quota:Int} (h:((!([size,grain,quota].all bC))||(decide ((grain:Int)<(1:Int))))=true):Cq size grain quota=false:=by unfold Cq;rw [h];rfl
theorem Cp {size grain quota:Int} (h:((!([size,grain,quota].all bC))||(decide ((grain:Int)<(1:Int))))=false):Cq size grain quota=true:=by unfold Cq;rw [h];rfl
theorem Bx {size grain quota:Int} (h:((!([size,grain,quota].all bC))||(decide ((grain:Int)<(1:Int))))=false):0<=size/\size<=1099511627776/\1<=grain:=by
 simp at h
 have:=mH.1 h.1.1
 omega
def tG (n:Int):List aK:=if 0<n then [⟨0,n⟩] else []
theorem AN {n:Int} (h:decide ((0:Int)<(n:Int))=true):tG n=[⟨0,n⟩]:=by unfold tG;rw [aEc (aBp h)]
theorem CM {n:Int} (h:decide ((0:Int)<(n:Int))=false):tG n=[]:=by unfold tG;rw [aEd (aBe h)]
def pC (size grain quota:Int) (dr:Bool) (fb:Option Addr) (fc:Nat):bW:=
 if Cq size grain quota=true then ⟨size - size.tmod grain,grain,quota,false,dr,fb,fc,tG (size - size.tmod grain),none,0,[]⟩ else ⟨0,0,0,false,false,none,0,[],none,0,[]⟩
theorem Ce {size grain quota:Int} {dr:Bool} (h:((!([size,grain,quota].all bC))||(decide ((grain:Int)<(1:Int))))=true):pC size grain quota dr fb fc=⟨0,0,0,false,false,none,0,[],none,0,[]⟩:=by unfold pC;rw [Kt h];rfl
theorem oX {size grain quota:Int} {dr:Bool} (h:((!([size,grain,quota].all bC))||(decide ((grain:Int)<(1:Int))))=false):pC size grain quota dr fb fc=⟨size - size.tmod grain,grain,quota,false,dr,fb,fc,tG (size - size.tmod grain),none,0,[]⟩:=by unfold pC;rw [Cp h];rfl
theorem Xf (size grain quota:Int) (dr:Bool) (w) (hi1:jO size) (hi2:jO grain) (hi3:jO quota):cT 98 [zi size,zi grain,zi quota,.bool dr] w fun v W=>∃ fb fc,v=.tuple #[.agg (pC size grain quota dr fb fc).cells.toArray,zi (cA 2 (Cq size grain quota))]/\(pC size grain quota dr fb fc).At W:=by
 refine qV (n:=40) func98 rfl ntmps98 (aA1 rfl) (Ae (rg (eA (cs:=RS) zeroValue70 rfl fun w1 B1 k1 z1 =>?_)))
 have leB1:=aDl w.heap.size
 refine bU (nx (aF ?_))
 refine sQ (_::_::_::(fun v w=>Rd 1 w v 3 3 [zi size,zi grain,zi quota])::(vE (.bool ([size,grain,quota].all bC)))::_::_::_::_::_::[]) [(9,20)] [0,1,2,3,8,9] rfl ⟨aA,aA,aA,zT,aA,aA,aA,aD aA,aD aA,aA,trivial⟩ (by kernel_rfl) rfl rfl rfl (fun S=>⟨
  bF S rfl rfl,
  bF S rfl rfl,
  bF S rfl rfl,
  ow [(0,11),(1,12),(2,13)] [] S rfl rfl rfl (by rintro g1 w1 hT ⟨h0,h1,h2,-⟩ -;exact xQ h0 h1 h2),
  oW [(3,14)] [] S rfl fun _ _ _ h _=>gV (a1 rfl) PW (wM (l:=[size,grain,quota]) h.1 (by simp) (m3 hi1 hi2 hi3)),
  aP [4] S rfl fun h=>cJ h.1,
  oW [(5,16)] [] S rfl fun _ _ _ h _=>dv aT h.1,
  tW S rfl rfl,
  cK [7] S rfl fun e _ h=>eT (h.1.1 e) rfl,
  aP [6,8] S rfl fun h=>dA h.1 (fun c=>h.2.1.1 (tn c)),
  trivial⟩) ?_
 rintro g2 w2 k2 ⟨s20,-⟩ ⟨o0,o1,o2,o3,o8,o9,-⟩
 have s0:g2 0=zi size:=o0.trans rfl
 have s1:g2 1=zi grain:=o1.trans rfl
 have s2:g2 2=zi quota:=o2.trans rfl
 have s3:g2 3=.bool dr:=o3.trans rfl
 have s8:g2 8=pt w.heap.size (0):=o8.trans rfl
 have b3:=aDu k1 k2
 have B1:=B1.below k2
 refine cd s20 (fun c4=>?_) (fun c4=>?_)
 ·
  refine rg (sq (bd70 ) (bR (vs:=RS) B1 sizeOf70 s8 rfl rfl rfl fun w5 B1n O5 z5 =>?_))
  replace B1:=B1n
  have b6:=aS.toBelow O5 b3 b3.size leB1
  refine bU (nx (aE ?_))
  refine sN ⟨_,Co rfl s8 (vZ (cs:=RS) isAgg70 sizeOf70 B1),_,rfl,b6,?_⟩
  rw [show ev 40 _ (.tmp 9)=_ from rfl]
  exact ⟨none,0,by rw [Ce c4,oH (n:=2) (Kt c4)];rfl,by rw [Ce c4];exact ⟨aEe 2 _,aEe 2 _⟩⟩
 ·
  refine aG (rg (bI s0 (bI s0 (bI s1 (sq (Gn rfl rfl (by have:=(Bx c4).1;omega) (by have:=(Bx c4).2.2;omega)) (sq (tB rfl rfl (⟨by have:=Bx c4;have:=KF (a:=size) (b:=grain) (by omega) (by omega);omega,by have:=Bx c4;have:=KF (a:=size) (b:=grain) (by omega) (by omega);omega⟩)) (bI s1 (bI s2 (bI s3 (sq (oQ rfl rfl rfl rfl) (eA (cs:=RS) zeroValue70 rfl fun w7 B7 k7 z7 =>?_)))))))))))
  have nB1_B7:=aC8 B1.lt
  have leB7:=b3.size
  have b8:=aDu b3 k7
  have B1:=B1.below k7
  refine bR (vs:=[zi ((size:Int) - ((size:Int).tmod (grain:Int):Int)),zi grain,zi quota,.bool false,.bool dr,cP,cP]) B7 sizeOf70 rfl rfl rfl rfl fun w9 B7n O9 z9 =>?_
  replace B7:=B7n
  have b10:=aS.toBelow O9 b8 b8.size leB7
  have B1:=B1.only O9 nB1_B7
  refine nx (aF (rg (sq (sZ rfl) (sq (cZ rfl (B7.cell 0 rfl)) (sq (gH rfl rfl) (nx ?_))))))
  refine cd rfl (fun c11=>?_) (fun c11=>?_)
  ·
   refine eO (sq (sZ rfl) (sq (cZ rfl (B7.cell 0 rfl)) (sq (GQ rfl) (Cd (cs:=[aV,zi ((size:Int) - ((size:Int).tmod (grain:Int):Int))]) underlying67 sT rfl rfl rfl rfl fun w12 B12 k12 z12 =>?_))))
   have nB1_B12:=aC8 B1.lt
   have nB7_B12:=aC8 B7.lt
   have leB12:=b10.size
   have b13:=aDu b10 k12
   have B1:=B1.below k12
   have B7:=B7.below k12
   refine sq (sC rfl) (eP B7 sizeOf67 rfl rfl rfl rfl fun w14 B7n O14 z14 =>?_)
   replace B7:=B7n
   have b15:=aS.toBelow O14 b13 b13.size leB7
   have B1:=B1.only O14 nB1_B7
   have B12:=B12.only O14 nB7_B12.symm
   refine nl (rg (sq (ML rfl B7.range rfl) (bR (vs:=[zi ((size:Int) - ((size:Int).tmod (grain:Int):Int)),zi grain,zi quota,.bool false,.bool dr,.slice (some ⟨w9.heap.size,0,none⟩) (1) (1),cP]) B1 sizeOf70 s8 rfl rfl rfl fun w16 B1n O16 z16 =>?_)))
   replace B1:=B1n
   have b17:=aS.toBelow O16 b15 b15.size leB1
   have B12:=B12.only O16 nB1_B12.symm
   refine bU (nx (aE ?_))
   refine sN ⟨_,Co rfl s8 (vZ (cs:=[zi ((size:Int) - ((size:Int).tmod (grain:Int):Int)),zi grain,zi quota,.bool false,.bool dr,.slice (some ⟨w9.heap.size,0,none⟩) (1) (1),cP]) isAgg70 sizeOf70 B1),_,rfl,b17,?_⟩
   rw [show ev 40 _ (.tmp 9)=_ from rfl]
   exact ⟨some ⟨w9.heap.size,0,none⟩,1,by rw [oX c4,uH (n:=2) (Cp c4),AN c11];rfl,by rw [oX c4,AN c11];exact ⟨⟨rfl,aDl _,by show 1<=maxLen;unfold maxLen;omega,.inr ⟨_,_,rfl,B12.lt,B12.range⟩⟩,aEe 2 _⟩⟩
  ·
   refine aG (rg (sq (ML rfl B7.range rfl) (bR (vs:=[zi ((size:Int) - ((size:Int).tmod (grain:Int):Int)),zi grain,zi quota,.bool false,.bool dr,cP,cP]) B1 sizeOf70 s8 rfl rfl rfl fun w18 B1n O18 z18 =>?_)))
   replace B1:=B1n
   have b19:=aS.toBelow O18 b10 b10.size leB1
   refine bU (nx (aE ?_))
   refine sN ⟨_,Co rfl s8 (vZ (cs:=[zi ((size:Int) - ((size:Int).tmod (grain:Int):Int)),zi grain,zi quota,.bool false,.bool dr,cP,cP]) isAgg70 sizeOf70 B1),_,rfl,b19,?_⟩
   rw [show ev 40 _ (.tmp 9)=_ from rfl]
   exact ⟨none,0,by rw [oX c4,uH (n:=2) (Cp c4),CM c11];rfl,by rw [oX c4,CM c11];exact ⟨aEe 2 _,aEe 2 _⟩⟩
theorem jT {n:Nat} {g:Nat->Value} {w:World} {dd:Option Tmp} {ty:TypeId} {pos:String} {aft:Array Edge} {gd:Option (Nat × Bool)} {x0 x1 x2 x3 x4 x5 x6 x7 x8 x9:Operand} {a1:Nat} {o1:Nat} {a2:Nat} {o2:Nat} {a3:Nat} {o3:Nat} {a4:Nat} {o4:Nat} {a5:Nat} {o5:Nat} {a6:Nat} {o6:Nat} {a7:Nat} {o7:Nat} {a8:Nat} {o8:Nat} {a9:Nat} {o9:Nat} {a10:Nat} {o10:Nat} (h0:ev n g x0=pt a1 o1) (h1:ev n g x1=pt a2 o2) (h2:ev n g x2=pt a3 o3) (h3:ev n g x3=pt a4 o4) (h4:ev n g x4=pt a5 o5) (h5:ev n g x5=pt a6 o6) (h6:ev n g x6=pt a7 o7) (h7:ev n g x7=pt a8 o8) (h8:ev n g x8=pt a9 o9) (h9:ev n g x9=pt a10 o10):aL n g ⟨dd,.build 182 #[(0,x0),(1,x1),(2,x2),(3,x3),(4,x4),(5,x5),(6,x6),(7,x7),(8,x8),(9,x9)],ty,pos,aft,gd⟩ w (.agg [pt a1 o1,pt a2 o2,pt a3 o3,pt a4 o4,pt a5 o5,pt a6 o6,pt a7 o7,pt a8 o8,pt a9 o9,pt a10 o10].toArray):=
 iA (ps:=[(0,x0),(1,x1),(2,x2),(3,x3),(4,x4),(5,x5),(6,x6),(7,x7),(8,x8),(9,x9)]) (by simp only [aC3,aDb,h0,h1,h2,h3,h4,h5,h6,h7,h8,h9];kernel_rfl)
def FK (bs:Nat):List Value:=[pt bs 2,pt bs 3,pt bs 4,pt bs 5,pt bs 6,pt bs 7,pt bs 8,pt bs 9,pt bs 10,pt bs 11]
theorem sI (bs) (s) (w) (hB:Bk bs (aZ.cells s) 29 w):cT 100 [pt bs 0] w fun v _=>v=.agg (FK bs).toArray:=by
 refine qV (n:=42) func100 rfl ntmps100 (aA1 rfl) (Ae (rg (eA (cs:=[.pointer none,.pointer none,.pointer none,.pointer none,.pointer none,.pointer none,.pointer none,.pointer none,.pointer none,.pointer none]) zeroValue182 rfl fun w1 B1 k1 z1 =>?_)))
 have nhB_B1:=aC8 hB.lt
 have leB1:=aDl w.heap.size
 refine nx ?_
 refine YF 39 (_::_::_::_::_::_::_::_::_::_::_::_::_::_::_::_::_::_::_::_::_::_::_::_::_::_::_::_::_::_::_::_::_::_::_::_::_::_::_::[]) [(38,41)] [2] rfl rfl ⟨aA,aA,aA,aA,aA,aA,aA,aA,aA,aA,aA,aA,aA,aA,aA,aA,aA,aA,aA,aA,aA,aA,aA,aA,aA,aA,aA,aA,aA,aA,aA,aA,aA,aA,aA,aA,aA,aA,aA,trivial⟩ (by kernel_rfl) rfl rfl rfl rfl rfl (fun S=>⟨
  bF S rfl rfl,
  aP [0] S rfl fun h=>dF h.1,
  aP [1] S rfl fun h=>sL h.1,
  aP [2] S rfl fun h=>IY h.1,
  bF S rfl rfl,
  aP [4] S rfl fun h=>dF h.1,
  aP [5] S rfl fun h=>sL h.1,
  aP [6] S rfl fun h=>WY h.1,
  bF S rfl rfl,
  aP [8] S rfl fun h=>dF h.1,
  aP [9] S rfl fun h=>sL h.1,
  aP [10] S rfl fun h=>Pe h.1,
  bF S rfl rfl,
  aP [12] S rfl fun h=>dF h.1,
  aP [13] S rfl fun h=>zK h.1,
  bF S rfl rfl,
  aP [15] S rfl fun h=>dF h.1,
  aP [16] S rfl fun h=>IB h.1,
  bF S rfl rfl,
  aP [18] S rfl fun h=>dF h.1,
  aP [19] S rfl fun h=>vG h.1,
  aP [20] S rfl fun h=>XQ h.1,
  bF S rfl rfl,
  aP [22] S rfl fun h=>dF h.1,
  aP [23] S rfl fun h=>vG h.1,
  aP [24] S rfl fun h=>WZ h.1,
  bF S rfl rfl,
  aP [26] S rfl fun h=>dF h.1,
  aP [27] S rfl fun h=>vG h.1,
  aP [28] S rfl fun h=>WA h.1,
  bF S rfl rfl,
  aP [30] S rfl fun h=>dF h.1,
  aP [31] S rfl fun h=>vG h.1,
  aP [32] S rfl fun h=>XH h.1,
  bF S rfl rfl,
  aP [34] S rfl fun h=>dF h.1,
  aP [35] S rfl fun h=>vG h.1,
  aP [36] S rfl fun h=>WW h.1,
  aP [3,7,11,14,17,21,25,29,33,37] S rfl fun h=>jT h.1 h.2.1 h.2.2.1 h.2.2.2.1 h.2.2.2.2.1 h.2.2.2.2.2.1 h.2.2.2.2.2.2.1 h.2.2.2.2.2.2.2.1 h.2.2.2.2.2.2.2.2.1 h.2.2.2.2.2.2.2.2.2.1,
  trivial⟩) ?_
 rintro g2 w2 k2 ⟨s41,-⟩ ⟨o2,-⟩ K hK
 have s2:g2 2=pt w.heap.size (0):=o2.trans rfl
 have b3:=aDu k1 k2
 have B1:=B1.below k2
 refine kI (vs:=[pt bs (2),pt bs (3),pt bs (4),pt bs (5),pt bs (6),pt bs (7),pt bs (8),pt bs (9),pt bs (10),pt bs (11)]) B1 sizeOf182 s2 s41 rfl rfl fun w4 B1n O4 z4 =>?_
 replace B1:=B1n
 have b5:=aS.toBelow O4 b3 b3.size leB1
 exact hK _ _ (aE (sN ⟨_,rW rfl s2 (vZ (cs:=[pt bs (2),pt bs (3),pt bs (4),pt bs (5),pt bs (6),pt bs (7),pt bs (8),pt bs (9),pt bs (10),pt bs (11)]) isAgg182 sizeOf182 B1),_,rfl,b5,rfl⟩))
theorem WE: prog.underlying 182=some (.array 10 181):=by kernel_rfl
theorem Xv (w):(isAgg 181).run prog w=.ok false w:=isAgg181 w
section
variable {n:Nat} {g:Nat->Value} {w:World} {dd:Option Tmp} {ty:TypeId} {pos:String} {aft:Array Edge} {gd:Option (Nat × Bool)} {x y:Operand}
theorem Ew {bs i:Nat} (hx:ev n g x=.agg (FK bs).toArray) (hy:ev n g y=zi (i:Int)) (hi:i<10):aL n g ⟨dd,.index 182 x y,ty,pos,aft,gd⟩ w (pt bs (2+i)):=by
 unfold aL execOp
 have h10:((i:Int)<10):=by omega
 have hget:∀ cs,cs=(FK bs).toArray->(part 181 cs i).run prog w=.ok (pt bs (2+i)) w:=fun cs hc=>by
  subst hc
  have:(FK bs).toArray[i]? = some (pt bs (2+i)):=by
   rcases (show i=0\/i=1\/i=2\/i=3\/i=4\/i=5\/i=6\/i=7\/i=8\/i=9 by omega) with rfl | rfl | rfl | rfl | rfl | rfl | rfl | rfl | rfl | rfl <;> rfl
  simp [part, Xv, this, go_sem]
 simp [hx,hy,Instr.index,asIntOf,run_underlying WE,h10,sizeOf181,hget]
 intro h;omega
end
def jU (s:aZ) (i:Nat):Int:=[s.band,s.backoff,s.tries,s.rate,s.half,s.qos,s.age,s.old,s.size,s.use].getD i 0
theorem BS {s:aZ} (hB:Bk bs (aZ.cells s) 29 w) (hi:i<10):w.cell? ⟨bs,2+i,none⟩=some (zi (jU s i)):=by
 rcases (show i=0\/i=1\/i=2\/i=3\/i=4\/i=5\/i=6\/i=7\/i=8\/i=9 by omega) with rfl | rfl | rfl | rfl | rfl | rfl | rfl | rfl | rfl | rfl
 ·exact hB.cell 2 rfl
 ·exact hB.cell 3 rfl
 ·exact hB.cell 4 rfl
 ·exact hB.cell 5 rfl
 ·exact hB.cell 6 rfl
 ·exact hB.cell 7 rfl
 ·exact hB.cell 8 rfl
 ·exact hB.cell 9 rfl
 ·exact hB.cell 10 rfl
 ·exact hB.cell 11 rfl
theorem Lh {s:aZ} (hs:s.Fit) (hi:i<10):jO (jU s i):=by
 rcases (show i=0\/i=1\/i=2\/i=3\/i=4\/i=5\/i=6\/i=7\/i=8\/i=9 by omega) with rfl | rfl | rfl | rfl | rfl | rfl | rfl | rfl | rfl | rfl
 ·exact hs.band
 ·exact hs.backoff
 ·exact hs.tries
 ·exact hs.rate
 ·exact hs.half
 ·exact hs.qos
 ·exact hs.age
 ·exact hs.old
 ·exact hs.size
 ·exact hs.use
theorem iT {l:List eY} {k:Nat} (hk:k<(aU l).length):((aU l)[k]).2∈l:=by
 rw [iZ] at hk;rw [DO hk];exact aBz hk
theorem Gp (s) (w):cT 97 [.agg (aZ.cells s).toArray] w fun v W=>∃ bl,v=.func (.func 149) #[] #[pt bl 0]/\Bk bl (aZ.cells s) 29 W/\w.heap.size<=bl:=by
 refine aJ (n:=4) func97 rfl ntmps97 (aA1 rfl) (rg (cO (cs:=aZ.cells s) rfl rfl fun w1 B1 k1 z1 =>?_))
 have leB1:=aDl w.heap.size
 exact aW (.nilFunc) rfl (nx (rg (sq (Aa rfl) (aW (.func (.func 149) #[] #[pt w.heap.size (0)]) rfl (nx (aE (bT rfl k1 ⟨_,rfl,B1,leB1⟩)))))))
def tT (p:ByteArray × eY):Bool:=((!decide ((cA 2 (Cq p.2.size p.2.grain p.2.quota):Int)=(0:Int)))||(!(dK (p.2.name).data.toList)))||(Xh p.2.name p.1)
def yM (s:aZ):Bool:=((((((decide ((s.nodes:Int)<(1:Int)))||(decide ((64:Int)<(s.nodes:Int))))||(decide ((4:Int)<(((s.pools.length:Nat):Int):Int))))||(decide ((20:Int)<=(s.tries:Int))))||(decide ((s.rate:Int)<(1:Int))))||(decide (((s.band:Int).tdiv (s.rate:Int):Int)<(1:Int))))||(decide ((100:Int)<((s.band:Int).tdiv (s.rate:Int):Int)))
def bH (s:aZ):Bool:=(aU s.pools).all (fun p=>!tT p)&&((List.range 10).all (fun i=>bC (jU s i))&&!yM s)
theorem Of {s:aZ} (h:(aU s.pools).all (fun p=>!tT p)=false):bH s=false:=by unfold bH;rw [h];rfl
theorem Zg {n:Int} (h:(!([n].all bC))=false):bC n=true:=by simpa using h
theorem PH {s:aZ} (hi:i<10) (h:(!([jU s i].all bC))=true):bH s=false:=by
 unfold bH
 rw [IV hi (by simpa using h)];simp
theorem QW {s:aZ} (h:yM s=true):bH s=false:=by unfold bH;rw [h];simp
theorem Mf {s:aZ} (hi:10<=i) (h:∀ j,j<i->bC (jU s j)=true):(List.range 10).all (fun i=>bC (jU s i))=true:=
 aB1.2 fun j hj=>h j (by have:=aCw.1 hj;omega)
theorem PY {s:aZ} (h1:(aU s.pools).all (fun p=>!tT p)=true) (h2:(List.range 10).all (fun i=>bC (jU s i))=true) (h3:yM s=false):bH s=true:=by unfold bH;rw [h1,h2,h3];rfl
theorem cgR {G D:Bool} (e:(!(G||D))=true):D=false:=by cases D <;> simp_all
theorem cgR2 {G D E:Bool} (e:(!((G||D)||E))=true):D=false:=by cases D <;> simp_all
theorem vX (s) (w) (hs:s.Fit) (ha:s.At w):cT 25 [.agg (aZ.cells s).toArray] w fun v _=>v=zi (cA 270 (bH s)):=by
 refine qV (n:=93) func25 rfl ntmps25 (aA1 rfl) ?_
 refine jI (Ae (eO (cO (cs:=aZ.cells s) rfl rfl fun w1 B1 k1 z1 =>?_)))
 have leB1:=aDl w.heap.size
 refine eA (cs:=[aV]) zeroValue42 rfl fun w2 B2 k2 z2 =>?_
 have nB1_B2:=aC8 B1.lt
 have leB2:=k1.size
 have b3:=aDu k1 k2
 have B1:=B1.below k2
 refine nl (jI ?_)
 refine jI (Ae (eO (sq (AT rfl B1.range rfl) ?_)))
 have B1s:=B1
 have B2s:=B2
 refine cE ZL (a1 rfl) (Gp s _) ?_
 rintro v4 w4 k4 ⟨bl,rfl,hBl,lel⟩
 have b5:=aDu b3 k4
 have B1:=B1.below k4
 have B2:=B2.below k4
 refine nl ?_
 have hx1:w.heap.size<bl:=aBi B1s.lt lel
 have hx2:w1.heap.size<bl:=aBi B2s.lt lel
 have hx3:=B1.lt
 have hx4:=B2.lt
 have hx5:w.heap.size≠w1.heap.size:=nB1_B2
 have hrow:∀ b,(Value.slice s.pb s.pools.length s.pc).ownBlock=some b->b<w.heap.size:=fun b hb=>Rd.lt ha b hb
 have hwr:=b5.size
 have hle1:=leB1
 have hle2:=leB2
 refine wZ ?_
 refine tA (f0:=25) func25 rfl VY (BC bl s _ hBl (aZ.At.below ha b5) (by have:=hs.poolsN;omega)) (fun _=>rfl) (·=w1.heap.size) (fun i hi h=>by omega) (⟨fun h=>by have:=hBl.lt;omega,fun b hb h=>by have:=hrow b hb;omega⟩) (fun S R k W=>((aU s.pools).take k).all (fun p=>!tT p)=true/\Bk w.heap.size (aZ.cells s) 29 W/\Bk w1.heap.size [aV] 42 W/\Below w.heap.size w W) (fun S c W=>c=.ret/\(aU s.pools).all (fun p=>!tT p)=false/\Bk w1.heap.size [zi (270)] 42 W/\Below w.heap.size w W) (fun _ _=>False) ?_ ?_ ?_ ?_ ?_ ?_ ?_
 ·rintro S R k A B ⟨h0,h1,h2,h3⟩ hk;exact ⟨h0,h1.km hk (fun h=>by omega),h2.km hk (fun h=>by omega),hk.toBelow h3 h3.size (fun i hi=>by omega)⟩
 ·rintro S c A B ⟨h0,h1,h2,h3⟩ hk;exact ⟨h0,h1,h2.km hk (fun h=>by omega),hk.toBelow h3 h3.size (fun i hi=>by omega)⟩
 ·intro A hA;exact ⟨rfl,B1.below hA,B2.below hA,aDu b5 hA⟩
 ·
  intro S R k A hk hJ hlA hS hSA hRb
  obtain ⟨hall,hS9,hN9,hbl⟩:=hJ
  refine rg (aW (.string (((aU s.pools)[k]).1)) rfl (nx (eO (eA (cs:=zl7) zeroValue143 rfl fun w6 B6 k6 z6 =>?_))))
  have nhS9_B6:=aC8 hS9.lt
  have nhN9_B6:=aC8 hN9.lt
  have lkB6_A:=aDl A.heap.size
  have leB6:=hbl.size
  have b7:=aDu hbl k6
  have hS9:=hS9.below k6
  have hN9:=hN9.below k6
  have m8:KM (fun i=>(·=w1.heap.size) i\/R i) A w6:=aDr k6
  refine bR (vs:=eY.cells ((aU s.pools)[k]).2) B6 sizeOf143 rfl rfl rfl rfl fun w9 B6n O9 z9 =>?_
  replace B6:=B6n
  have b10:=aS.toBelow O9 b7 b7.size leB6
  have hS9:=hS9.only O9 nhS9_B6
  have hN9:=hN9.only O9 nhN9_B6
  have m11:KM (fun i=>(·=w1.heap.size) i\/R i) A w9:=m8.only O9 (.inr lkB6_A)
  refine nl ?_
  refine ⟨m11,?_⟩
  intro w12 O12
  have hS9:=hS9.only O12 (by omega)
  have hN9:=hN9.only O12 (by omega)
  have B6:=B6.only O12 (Ne.symm (aC8 (aBi hlA lkB6_A)))
  have b13:=aS.toBelow O12 b10 b10.size (by omega)
  refine aO (rg (sq (JK rfl) (sq (cZ rfl (B6.cell 1 rfl)) (sq (KZ rfl) (sq (cZ rfl (B6.cell 2 rfl)) (sq (Kj rfl) (sq (cZ rfl (B6.cell 3 rfl)) (sq (Kh rfl) (sq (DB rfl (B6.cell 4 rfl)) (cE en98 (a4 rfl rfl rfl rfl) (Xf (((aU s.pools)[k]).2.size) (((aU s.pools)[k]).2.grain) (((aU s.pools)[k]).2.quota) (((aU s.pools)[k]).2.best) _ (hs.pools _ (iT hk)).size (hs.pools _ (iT hk)).grain (hs.pools _ (iT hk)).quota) ?_))))))))))
  rintro v14 w14 k14 ⟨fbq,fcq,rfl,hnp⟩
  have b15:=aDu b13 k14
  have hS9:=hS9.below k14
  have hN9:=hN9.below k14
  have B6:=B6.below k14
  have m16:KM (fun i=>(·=w1.heap.size) i\/R i) w12 w14:=aDr k14
  refine aN (.tuple #[.agg (bW.cells (pC (((aU s.pools)[k]).2.size) (((aU s.pools)[k]).2.grain) (((aU s.pools)[k]).2.quota) (((aU s.pools)[k]).2.best) fbq fcq)).toArray,zi (cA 2 (Cq (((aU s.pools)[k]).2.size) (((aU s.pools)[k]).2.grain) (((aU s.pools)[k]).2.quota)))]) rfl (sq (dT rfl rfl) (sq (dT rfl rfl) (eA (cs:=RS) zeroValue70 rfl fun w17 B17 k17 z17 =>?_)))
  have nhS9_B17:=aC8 hS9.lt
  have nhN9_B17:=aC8 hN9.lt
  have nB6_B17:=aC8 B6.lt
  have lkB17_w12:=m16.size
  have leB17:=b15.size
  have b18:=aDu b15 k17
  have hS9:=hS9.below k17
  have hN9:=hN9.below k17
  have B6:=B6.below k17
  have m19:KM (fun i=>(·=w1.heap.size) i\/R i) w12 w17:=m16.below k17
  refine bR (vs:=bW.cells (pC (((aU s.pools)[k]).2.size) (((aU s.pools)[k]).2.grain) (((aU s.pools)[k]).2.quota) (((aU s.pools)[k]).2.best) fbq fcq)) B17 sizeOf70 rfl rfl rfl rfl fun w20 B17n O20 z20 =>?_
  replace B17:=B17n
  have b21:=aS.toBelow O20 b18 b18.size leB17
  have hS9:=hS9.only O20 nhS9_B17
  have hN9:=hN9.only O20 nhN9_B17
  have B6:=B6.only O20 nB6_B17
  have m22:KM (fun i=>(·=w1.heap.size) i\/R i) w12 w20:=m19.only O20 (.inr lkB17_w12)
  refine aW (zi (cA 2 (Cq (((aU s.pools)[k]).2.size) (((aU s.pools)[k]).2.grain) (((aU s.pools)[k]).2.quota)))) rfl (nx ?_)
  refine sQ (_::_::_::_::_::(GV (!(!decide ((cA 2 (Cq (((aU s.pools)[k]).2.size) (((aU s.pools)[k]).2.grain) (((aU s.pools)[k]).2.quota)):Int)=(0:Int)))) (vE (.bool (dK (((aU s.pools)[k]).2.name).data.toList))))::_::_::_::_::_::_::_::_::[]) [(13,38)] [2] rfl ⟨aA,aA,aA,aD aA,aD aA,aD aA,aD aA,aA,aA,aD aA,aD aA,aD aA,aD aA,aA,trivial⟩ (by kernel_rfl) rfl rfl rfl (fun S=>⟨
   bF S rfl rfl,
   aP [0] S rfl fun h=>gC h.1 rfl,
   oW [(1,26)] [] S rfl fun _ _ _ h _=>dv aT h.1,
   fW 4 S rfl fun e q=>Bh q,
   cK [3] S rfl fun e hT h=>nY (h.1.1 e) ((B6.below hT).cell 0 rfl),
   oF [(4,29)] [] S rfl i2 gU fun e _ _ _ h _=>dG e (gV (a1 (h.1.1 e)) Jq (oM (lO (((aU s.pools)[k]).2.name) _ (aC7 (hs.pools _ (iT hk)).name (by decide))))),
   cK [5] S rfl fun e _ h=>cJ (h.1.1 e),
   aP [2,6] S rfl fun h=>dA h.1 (fun c=>h.2.1.1 (tn c)),
   oW [(7,32)] [] S rfl fun _ _ _ h _=>dv aT h.1,
   fW 4 S rfl fun e q=>Bh q,
   cK [9] S rfl fun e hT h=>nY (h.1.1 e) ((B6.below hT).cell 0 rfl),
   tW S rfl rfl,
   cK [10,11] S rfl fun e _ h=>VX (h.1.1 e) (h.2.1.1 e),
   aP [8,12] S rfl fun h=>dA h.1 (fun c=>h.2.1.1 (tn c)),
   trivial⟩) ?_
  rintro g23 w23 k23 ⟨s38,-⟩ ⟨o2,-⟩
  have s2:g23 2=pt w1.heap.size (0):=o2.trans rfl
  have b24:=aDu b21 k23
  have hS9:=hS9.below k23
  have hN9:=hN9.below k23
  have m25:KM (fun i=>(·=w1.heap.size) i\/R i) w12 w23:=m22.below k23
  refine cd s38 (fun c26=>?_) (fun c26=>?_)
  ·
   refine rg (eP hN9 sizeOf42 s2 rfl rfl rfl fun w27 hN9n O27 z27 =>?_)
   replace hN9:=hN9n
   have b28:=aS.toBelow O27 b24 b24.size hle2
   have m29:KM (fun i=>(·=w1.heap.size) i\/R i) w12 w27:=m25.only O27 (.inl (.inl rfl))
   exact nx (aE ⟨⟨rfl,JT hk c26,hN9,b28⟩,m29⟩)
  ·
   exact aG ⟨⟨fun _=>False,⟨JZ hk hall c26,hS9,hN9,b24⟩,fun _ h=>h.elim⟩,m25⟩
 ·intro _ _ h;exact h.elim
 ·
  intro S R w30 hJ hS hSB hD
  obtain ⟨hall,hS9,hN9,hbl⟩:=hJ
  rw [aCb] at hall
  refine Ae (aF (rg (cE Qf (a1 rfl) (sI w.heap.size s _ hS9) ?_)))
  rintro _ w31 k31 rfl
  have b32:=aDu hbl k31
  have hS9:=hS9.below k31
  have hN9:=hN9.below k31
  have hD33:=(k31.block _ (Array.getElem?_eq_some_iff.1 hD).1).trans hD
  refine rU (nx ?_)
  refine aO (lp (fun m g W=>∃ i:Nat,m=10 - i/\g 1=pt w.heap.size (0)/\g 2=pt w1.heap.size (0)/\g 39=.agg (FK w.heap.size).toArray/\g 40=zi ((i:Nat):Int)/\Bk w.heap.size (aZ.cells s) 29 W/\Bk w1.heap.size ([aV]) 42 W/\W.heap[w4.heap.size]? = some (.deferred (some []))/\Below w.heap.size w W/\(i<=10/\∀ j,j<i->bC (jU s j)=true)) _ ⟨0,rfl,rfl,rfl,rfl,rfl,hS9,hN9,hD33,b32,⟨by omega,fun j hj=>by omega⟩⟩ ?_)
  rintro m g34 w34 ⟨i,hme,s1,s2,s39,s40,hS9,hN9,hD34,b34,⟨hi10,hQ⟩⟩
  refine rg (sq (eT s40 rfl) (nx (aF ?_)))
  refine cd rfl (fun c35=>?_) (fun c35=>?_)
  ·
   refine aG (aF (aO (rg ?_)))
   have hi:i<10:=by have:=aBp c35;omega
   refine sq (Ew s39 s40 hi) (aW (pt w.heap.size (2+i)) rfl (nx (rg (aN (pt w.heap.size (2+i)) rfl (sq (dF rfl) (sq (cZ rfl (BS hS9 hi)) (mM rfl fun v36 w36 k36 r36 =>?_)))))))
   have b37:=aDu b34 k36
   have hS9:=hS9.below k36
   have hN9:=hN9.below k36
   have hD38:=(k36.block _ (Array.getElem?_eq_some_iff.1 hD34).1).trans hD34
   refine cE en101 (a1 rfl) (Hx (l:=[jU s i]) r36 (by simp) (m1 (Lh hs hi))) ?_
   rintro _ w39 k39 rfl
   have b40:=aDu b37 k39
   have hS9:=hS9.below k39
   have hN9:=hN9.below k39
   have hD41:=(k39.block _ (Array.getElem?_eq_some_iff.1 hD38).1).trans hD38
   refine sq (cJ rfl) (nx ?_)
   refine cd rfl (fun c42=>?_) (fun c42=>?_)
   ·
    refine rg (eP hN9 sizeOf42 s2 rfl rfl rfl fun w43 hN9n O43 z43 =>?_)
    replace hN9:=hN9n
    have b44:=aS.toBelow O43 b40 b40.size hle2
    have hD45:=(O43.block _ (Array.getElem?_eq_some_iff.1 hD41).1 (fun e=>absurd (aCp e) (by omega))).trans hD41
    exact nx (aE (wK hD45 fun w9 O9=>⟨_,rW rfl s2 (VA isAgg42 (hN9.only O9 (by omega)) rfl),_,rfl,aS.toBelow O9 b44 b44.size (by have:=b44.size;omega),aD7 (Value.int .i64) (oH (n:=270) (PH hi c42)).symm⟩))
   ·
    exact aG (pI (eO (sq (iK s40 rfl (⟨by omega,by omega⟩)) (aN (zi ((((i:Nat):Int):Int)+(1:Int))) rfl (nl (fC (by omega) ⟨i+1,rfl,s1,s2,s39,(aD7 (Value.int .i64) (by omega)),hS9,hN9,hD41,b40,⟨by omega,fun j hj=>by rcases aDd j i with h | h;exact hQ j h;rw [show j=i from by omega];exact Zg c42⟩⟩))))))
  ·
   refine cI ?_
   repeat refine bN ?_
   refine dP ?_
   have hq0:=mH.1 (hQ 0 (by have:=aBe c35;omega))
   simp only [jU,List.getD_cons_zero] at hq0
   refine aF ?_
   refine sQ (_::_::_::_::_::_::_::_::_::_::_::_::_::_::_::_::_::_::_::_::_::_::_::_::_::_::_::_::_::_::_::_::_::_::_::_::_::_::_::_::_::_::_::[]) [(42,92)] [2] rfl ⟨aA,aA,aA,aA,aD aA,aD aA,aD aA,aA,aA,aD aA,aD aA,aD aA,aD aA,aA,aA,aD aA,aD aA,aD aA,aD aA,aA,aA,aD aA,aD aA,aD aA,aA,aA,aD aA,aD aA,aD aA,aD aA,aD aA,aD aA,aD aA,aA,aA,aD aA,aD aA,aD aA,aD aA,aD aA,aD aA,aD aA,aA,trivial⟩ (by kernel_rfl) rfl rfl rfl (fun S=>⟨
    jA 1 S rfl fun q=>vR (q.trans s1),
    fY [0] S rfl fun hT h=>EI h.1 ((hS9.below hT).cell 0 rfl),
    aP [1] S rfl fun h=>eT h.1 rfl,
    oW [(2,52)] [] S rfl fun _ _ _ h _=>dv aT h.1,
    fW 1 S rfl fun e q=>vR (q.trans s1),
    cK [4] S rfl fun e hT h=>EI (h.1.1 e) ((hS9.below hT).cell 0 rfl),
    cK [5] S rfl fun e _ h=>gH (h.1.1 e) rfl,
    aP [3,6] S rfl fun h=>dA h.1 (fun c=>h.2.1.1 (tn c)),
    oW [(7,57)] [] S rfl fun _ _ _ h _=>dv aT h.1,
    fW 1 S rfl fun e q=>nJ (q.trans s1),
    cK [9] S rfl fun e hT h=>CR (h.1.1 e) ((hS9.below hT).cell 1 rfl),
    cK [10] S rfl fun e _ h=>aY underlying23 (h.1.1 e),
    cK [11] S rfl fun e _ h=>gH (h.1.1 e) rfl,
    aP [8,12] S rfl fun h=>dA h.1 (fun c=>h.2.1.1 (tn c)),
    oW [(13,63)] [] S rfl fun _ _ _ h _=>dv aT h.1,
    fW 1 S rfl fun e q=>sL (q.trans s1),
    cK [15] S rfl fun e _ h=>Pe (h.1.1 e),
    cK [16] S rfl fun e hT h=>cZ (h.1.1 e) ((hS9.below hT).cell 4 rfl),
    cK [17] S rfl fun e _ h=>nU (h.1.1 e) rfl,
    aP [14,18] S rfl fun h=>dA h.1 (fun c=>h.2.1.1 (tn c)),
    oW [(19,69)] [] S rfl fun _ _ _ h _=>dv aT h.1,
    fW 1 S rfl fun e q=>zK (q.trans s1),
    cK [21] S rfl fun e hT h=>cZ (h.1.1 e) ((hS9.below hT).cell 5 rfl),
    cK [22] S rfl fun e _ h=>eT (h.1.1 e) rfl,
    aP [20,23] S rfl fun h=>dA h.1 (fun c=>h.2.1.1 (tn c)),
    oW [(24,74)] [] S rfl fun _ _ _ h _=>dv aT h.1,
    fW 1 S rfl fun e q=>sL (q.trans s1),
    cK [26] S rfl fun e _ h=>IY (h.1.1 e),
    cK [27] S rfl fun e hT h=>cZ (h.1.1 e) ((hS9.below hT).cell 2 rfl),
    fW 1 S rfl fun e q=>zK (q.trans s1),
    cK [29] S rfl fun e hT h=>cZ (h.1.1 e) ((hS9.below hT).cell 5 rfl),
    cK [28,30] S rfl fun e _ h=>Qt (h.1.1 e) (h.2.1.1 e) (⟨by have:=hq0;omega,by have:=hq0;omega⟩) (by have:=aBe (cgR e);omega),
    cK [31] S rfl fun e _ h=>eT (h.1.1 e) rfl,
    aP [25,32] S rfl fun h=>dA h.1 (fun c=>h.2.1.1 (tn c)),
    oW [(33,83)] [] S rfl fun _ _ _ h _=>dv aT h.1,
    fW 1 S rfl fun e q=>sL (q.trans s1),
    cK [35] S rfl fun e _ h=>IY (h.1.1 e),
    cK [36] S rfl fun e hT h=>cZ (h.1.1 e) ((hS9.below hT).cell 2 rfl),
    fW 1 S rfl fun e q=>zK (q.trans s1),
    cK [38] S rfl fun e hT h=>cZ (h.1.1 e) ((hS9.below hT).cell 5 rfl),
    cK [37,39] S rfl fun e _ h=>Qt (h.1.1 e) (h.2.1.1 e) (⟨by have:=hq0;omega,by have:=hq0;omega⟩) (by have:=aBe (cgR2 e);omega),
    cK [40] S rfl fun e _ h=>gH (h.1.1 e) rfl,
    aP [34,41] S rfl fun h=>dA h.1 (fun c=>h.2.1.1 (tn c)),
    trivial⟩) ?_
   rintro g46 w46 k46 ⟨s92,-⟩ ⟨o2,-⟩
   have s2:=o2.trans s2
   have b47:=aDu b34 k46
   have hN9:=hN9.below k46
   have hD48:=(k46.block _ (Array.getElem?_eq_some_iff.1 hD34).1).trans hD34
   refine cd s92 (fun c49=>?_) (fun c49=>?_)
   ·
    refine rg (eP hN9 sizeOf42 s2 rfl rfl rfl fun w50 hN9n O50 z50 =>?_)
    replace hN9:=hN9n
    have b51:=aS.toBelow O50 b47 b47.size hle2
    have hD52:=(O50.block _ (Array.getElem?_eq_some_iff.1 hD48).1 (fun e=>absurd (aCp e) (by omega))).trans hD48
    exact nx (aE (wK hD52 fun w9 O9=>⟨_,rW rfl s2 (VA isAgg42 (hN9.only O9 (by omega)) rfl),_,rfl,aS.toBelow O9 b51 b51.size (by have:=b51.size;omega),aD7 (Value.int .i64) (oH (n:=270) (QW c49)).symm⟩))
   ·
    refine aG (rg (eP hN9 sizeOf42 s2 rfl rfl rfl fun w53 hN9n O53 z53 =>?_))
    replace hN9:=hN9n
    have b54:=aS.toBelow O53 b47 b47.size hle2
    have hD55:=(O53.block _ (Array.getElem?_eq_some_iff.1 hD48).1 (fun e=>absurd (aCp e) (by omega))).trans hD48
    exact nx (aE (wK hD55 fun w9 O9=>⟨_,rW rfl s2 (VA isAgg42 (hN9.only O9 (by omega)) rfl),_,rfl,aS.toBelow O9 b54 b54.size (by have:=b54.size;omega),aD7 (Value.int .i64) (uH (n:=270) (PY hall (Mf (by have:=aBe c35;omega) hQ) c49)).symm⟩))
 ·
  rintro S c B ⟨rfl,hbad,hN9,hbl⟩ hS hSB hD
  exact Ae (aE (wK hD fun w9 O9=>⟨_,rW rfl rfl (VA isAgg42 (hN9.only O9 (by omega)) rfl),_,rfl,aS.toBelow O9 hbl hbl.size (by have:=hbl.size;omega),aD7 (Value.int .i64) (oH (n:=270) (Of hbad)).symm⟩))
structure lQ.Fit (x:lQ):Prop where
 job:jO x.job
 pool:jO x.pool
 s1:jO x.s1
 s2:jO x.s2
 s3:jO x.s3
 s4:jO x.s4
 s5:jO x.s5
 s6:jO x.s6
 t1:jO x.t1
 t2:jO x.t2
 t3:jO x.t3
structure aX.Fit (K:Nat->ByteArray) (y:aX):Prop where
 site:y.site.Fit
 now:jO y.now
 next:jO y.next
 jobs:∀ j∈y.jobs,j.Fit K
 jobsN:y.jobs.length<=1000000
 bufs:∀ b∈y.bufs,b.Fit
 bufsN:y.bufs.length<=1000000
 pools:∀ p∈y.pools,p.Fit
 poolsN:y.pools.length<=1000000
 moves:∀ m∈y.moves,m.Fit
 movesN:y.moves.length<=1000000
 nodes:∀ n∈y.nodes,n.Fit
 nodesN:y.nodes.length<=1000000
 shares:∀ s∈y.shares,s.Fit
 sharesN:y.shares.length<=1000000
 rows:∀ r∈y.rows,r.Fit
 rowsN:y.rows.length<=1000000
 faults:∀ f∈y.faults,jO f
 faultsN:y.faults.length<=1000000
def Bf (x:bW):Bool:=!decide ((cA 2 (dX x):Int)=(0:Int))
theorem NG (x) (w) (hx:x.Fit) (ha:x.At w):cT 36 [.agg (bW.cells x).toArray] w fun v _=>v=.bool (Bf x):=by
 refine aJ (n:=6) func36 rfl ntmps36 (aA1 rfl) (rg (cO (cs:=bW.cells x) rfl rfl fun w1 B1 k1 z1 =>?_))
 have leB1:=aDl w.heap.size
 refine bU (nx (rg (sq (ML rfl B1.range rfl) (cE en37 (a1 rfl) (Jt x _ hx (ha.below k1)) ?_))))
 rintro _ w2 k2 rfl
 have b3:=aDu k1 k2
 exact sq (gC rfl rfl) (aW (.bool (!decide ((cA 2 (dX x):Int)=(0:Int)))) rfl (nx (aE (bT rfl b3 rfl))))
def SN (K:Nat->ByteArray) (y:aX):Bool:=(decide ((cA 270 (bH y.site):Int)=(0:Int)))&&(decide ((y.now:Int)=(iH y.now:Int)))
theorem c_24 (K:Nat->ByteArray) (y) (w) (bY) (hB:Bk bY (aX.cells y) 41 w) (hE:rI K w) (hPh:nE w) (hy:y.Fit K) (ha:y.At w):cT 24 [pt bY 0] w fun v _=>v=.bool (SN K y):=by
 refine aJ (n:=14) func24 rfl ntmps24 (aA1 rfl) (rg (bU (nx ?_)))
 refine sD (_::_::(vE (zi (cA 270 (bH y.site))))::_::_::_::_::_::_::(GV (decide ((cA 270 (bH y.site):Int)=(0:Int))) (vE (zi (iH y.now))))::_::_::_::[]) [(12,1)] [] rfl ⟨aA,aA,aA,aA,aA,aD aA,aD aA,aD aA,aD aA,aD aA,aD aA,aA,aA,trivial⟩ (by kernel_rfl) rfl rfl (fun S=>⟨
  jA 0 S rfl fun q=>vF q,
  fY [0] S rfl fun hT h=>AT h.1 ((hB.below hT).part (o:=0) (sub:=[zi y.site.nodes,.slice y.site.pb y.site.pools.length y.site.pc,zi y.site.band,zi y.site.backoff,zi y.site.tries,zi y.site.rate,zi y.site.half,zi y.site.qos,zi y.site.age,zi y.site.old,zi y.site.size,zi y.site.use]) rfl) rfl,
  oW [(1,3)] [] S rfl fun _ _ hT h _=>gV (a1 h.1) Wx (vX y.site _ hy.site (aZ.At.below ha.site hT)),
  aP [2] S rfl fun h=>eZ h.1 rfl,
  oW [(3,5)] [] S rfl fun _ _ _ h _=>dv aT h.1,
  qI 0 S rfl fun e q=>zJ q,
  dM [5] S rfl fun e hT h=>cZ (h.1.1 e) ((hB.below hT).cell 12 rfl),
  qI 0 S rfl fun e q=>zJ q,
  dM [7] S rfl fun e hT h=>cZ (h.1.1 e) ((hB.below hT).cell 12 rfl),
  oT [(8,10)] [] S rfl i2 gU fun e _ _ _ h _=>dG e (gV (a1 (h.1.1 e)) GU (AQ (gL y.now _ (hy.now).1 (hy.now).2))),
  dM [6,9] S rfl fun e _ h=>eZ (h.1.1 e) (h.2.1.1 e),
  aP [4,10] S rfl fun h=>cG h.1 (fun c=>h.2.1.1 c),
  oW [(11,13)] [] S rfl fun _ _ _ h _=>dv kC h.1,
  trivial⟩) ?_
 rintro g1 w1 k1 ⟨s1,-⟩ -
 exact aE (bT rfl k1 s1)
def PO (K:Nat->ByteArray) (y:aX):Bool:=((decide ((cA 230 (dS K y.next y.jobs):Int)=(0:Int)))&&(decide ((cA 170 (gY y.bufs):Int)=(0:Int))))&&(decide ((cA 190 (gP y.moves):Int)=(0:Int)))
theorem c_27 (K:Nat->ByteArray) (y) (w) (bY) (hB:Bk bY (aX.cells y) 41 w) (hE:rI K w) (hPh:nE w) (hy:y.Fit K) (ha:y.At w):cT 27 [pt bY 0] w fun v _=>v=.bool (PO K y):=by
 refine aJ (n:=18) func27 rfl ntmps27 (aA1 rfl) (rg (bU (nx ?_)))
 refine sQ (_::_::(vE (zi (cA 230 (dS K y.next y.jobs))))::_::_::_::_::(GV (decide ((cA 230 (dS K y.next y.jobs):Int)=(0:Int))) (vE (zi (cA 170 (gY y.bufs)))))::_::_::_::_::_::(GV ((decide ((cA 230 (dS K y.next y.jobs):Int)=(0:Int)))&&(decide ((cA 170 (gY y.bufs):Int)=(0:Int)))) (vE (zi (cA 190 (gP y.moves)))))::_::_::_::[]) [(16,1)] [] rfl ⟨aA,aA,aA,aA,aA,aD aA,aD aA,aD aA,aD aA,aA,aA,aD aA,aD aA,aD aA,aD aA,aA,aA,trivial⟩ (by kernel_rfl) rfl rfl rfl (fun S=>⟨
  jA 0 S rfl fun q=>vO q,
  fY [0] S rfl fun hT h=>PU h.1 ((hB.below hT).part (o:=13) (sub:=[zi y.next,.slice y.jb y.jobs.length y.jc]) rfl) rfl,
  oW [(1,3)] [] S rfl fun _ _ hT h _=>gV (a1 h.1) en28 (Jc K y.next y.jb y.jc y.jobs _ (hE.below hT) (hPh.below hT) hy.jobsN (ha.jobs.below hT) hy.jobs (fun j hj=>(ha.jobsAt j hj).below hT)),
  aP [2] S rfl fun h=>eZ h.1 rfl,
  oW [(3,5)] [] S rfl fun _ _ _ h _=>dv aT h.1,
  qI 0 S rfl fun e q=>Ch q,
  dM [5] S rfl fun e hT h=>Vl (h.1.1 e) ((hB.below hT).cell 15 rfl),
  oT [(6,8)] [] S rfl i2 gU fun e _ _ hT h _=>dG e (gV (a1 (h.1.1 e)) en29 (Mg y.bb y.bc y.bufs _ hy.bufsN (ha.bufs.below hT) hy.bufs (fun b hb=>(ha.bufsAt b hb).below hT))),
  dM [7] S rfl fun e _ h=>eZ (h.1.1 e) rfl,
  aP [4,8] S rfl fun h=>cG h.1 (fun c=>h.2.1.1 c),
  oW [(9,11)] [] S rfl fun _ _ _ h _=>dv aT h.1,
  qI 0 S rfl fun e q=>Ca q,
  dM [11] S rfl fun e hT h=>Tv (h.1.1 e) ((hB.below hT).cell 17 rfl),
  oT [(12,14)] [] S rfl i2 gU fun e _ _ hT h _=>dG e (gV (a1 (h.1.1 e)) en30 (Ir y.mb y.mc y.moves _ hy.movesN (ha.moves.below hT) hy.moves)),
  dM [13] S rfl fun e _ h=>eZ (h.1.1 e) rfl,
  aP [10,14] S rfl fun h=>cG h.1 (fun c=>h.2.1.1 c),
  oW [(15,17)] [] S rfl fun _ _ _ h _=>dv kC h.1,
  trivial⟩) ?_
 rintro g1 w1 k1 ⟨s1,-⟩ -
 exact aE (bT rfl k1 s1)
def Sg (K:Nat->ByteArray) (y:aX):Bool:=((decide ((cA 2 (gF y.nodes):Int)=(0:Int)))&&(decide ((((y.nodes.length:Nat):Int):Int)=(y.site.nodes:Int))))&&(decide ((cA 240 (fR y.shares):Int)=(0:Int)))
theorem c_31 (K:Nat->ByteArray) (y) (w) (bY) (hB:Bk bY (aX.cells y) 41 w) (hE:rI K w) (hPh:nE w) (hy:y.Fit K) (ha:y.At w):cT 31 [pt bY 0] w fun v _=>v=.bool (Sg K y):=by
 refine aJ (n:=21) func31 rfl ntmps31 (aA1 rfl) (rg (bU (nx ?_)))
 refine sQ (_::_::(vE (zi (cA 2 (gF y.nodes))))::_::_::_::_::_::_::_::_::_::_::_::_::_::(GV ((decide ((cA 2 (gF y.nodes):Int)=(0:Int)))&&(decide ((((y.nodes.length:Nat):Int):Int)=(y.site.nodes:Int)))) (vE (zi (cA 240 (fR y.shares)))))::_::_::_::[]) [(19,1)] [] rfl ⟨aA,aA,aA,aA,aA,aD aA,aD aA,aD aA,aD aA,aD aA,aD aA,aD aA,aA,aA,aD aA,aD aA,aD aA,aD aA,aA,aA,trivial⟩ (by kernel_rfl) rfl rfl rfl (fun S=>⟨
  jA 0 S rfl fun q=>vU q,
  fY [0] S rfl fun hT h=>Qm h.1 ((hB.below hT).cell 18 rfl),
  oW [(1,3)] [] S rfl fun _ _ hT h _=>gV (a1 h.1) en32 (Ju y.nb y.nc y.nodes _ hy.nodesN (ha.nodes.below hT)),
  aP [2] S rfl fun h=>eZ h.1 rfl,
  oW [(3,5)] [] S rfl fun _ _ _ h _=>dv aT h.1,
  qI 0 S rfl fun e q=>vU q,
  dM [5] S rfl fun e hT h=>Qm (h.1.1 e) ((hB.below hT).cell 18 rfl),
  dM [6] S rfl fun e _ h=>aY underlying36 (h.1.1 e),
  qI 0 S rfl fun e q=>vF q,
  dM [8] S rfl fun e _ h=>vR (h.1.1 e),
  dM [9] S rfl fun e hT h=>EI (h.1.1 e) ((hB.below hT).cell 0 rfl),
  dM [7,10] S rfl fun e _ h=>eZ (h.1.1 e) (h.2.1.1 e),
  aP [4,11] S rfl fun h=>cG h.1 (fun c=>h.2.1.1 c),
  oW [(12,14)] [] S rfl fun _ _ _ h _=>dv aT h.1,
  qI 0 S rfl fun e q=>CI q,
  dM [14] S rfl fun e hT h=>Tl (h.1.1 e) ((hB.below hT).cell 19 rfl),
  oT [(15,17)] [] S rfl i2 gU fun e _ _ hT h _=>dG e (gV (a1 (h.1.1 e)) en33 (Gg y.sb y.sc y.shares _ hy.sharesN (ha.shares.below hT) hy.shares)),
  dM [16] S rfl fun e _ h=>eZ (h.1.1 e) rfl,
  aP [13,17] S rfl fun h=>cG h.1 (fun c=>h.2.1.1 c),
  oW [(18,20)] [] S rfl fun _ _ _ h _=>dv kC h.1,
  trivial⟩) ?_
 rintro g1 w1 k1 ⟨s1,-⟩ -
 exact aE (bT rfl k1 s1)
def Up (K:Nat->ByteArray) (y:aX):Bool:=(decide ((((y.pools.length:Nat):Int):Int)=(((y.site.pools.length:Nat):Int):Int)))&&(!(y.pools.any Bf))
theorem c_34 (K:Nat->ByteArray) (y) (w) (bY) (hB:Bk bY (aX.cells y) 41 w) (hE:rI K w) (hPh:nE w) (hy:y.Fit K) (ha:y.At w):cT 34 [pt bY 0] w fun v _=>v=.bool (Up K y):=by
 refine aJ (n:=16) func34 rfl ntmps34 (aA1 rfl) (rg (bU (nx ?_)))
 refine sQ (_::_::_::_::_::_::_::_::_::_::_::(GV (decide ((((y.pools.length:Nat):Int):Int)=(((y.site.pools.length:Nat):Int):Int))) (vE (.bool (y.pools.any Bf))))::_::_::_::[]) [(14,1)] [] rfl ⟨aA,aA,aA,aA,aA,aA,aA,aA,aA,aD aA,aD aA,aD aA,aD aA,aA,aA,trivial⟩ (by kernel_rfl) rfl rfl rfl (fun S=>⟨
  jA 0 S rfl fun q=>vK q,
  fY [0] S rfl fun hT h=>MZ h.1 ((hB.below hT).cell 16 rfl),
  aP [1] S rfl fun h=>aY underlying34 h.1,
  jA 0 S rfl fun q=>vF q,
  aP [3] S rfl fun h=>nJ h.1,
  fY [4] S rfl fun hT h=>CR h.1 ((hB.below hT).cell 1 rfl),
  aP [5] S rfl fun h=>aY underlying23 h.1,
  aP [2,6] S rfl fun h=>eZ h.1 h.2.1,
  oW [(7,9)] [] S rfl fun _ _ _ h _=>dv aT h.1,
  qI 0 S rfl fun e q=>vK q,
  dM [9] S rfl fun e hT h=>MZ (h.1.1 e) ((hB.below hT).cell 16 rfl),
  oT [(10,12)] [] S rfl i2 gU fun e _ _ hT h _=>dG e (gV (a2 (h.1.1 e) rfl) en35 (Xd 36 [] Bf y.pb y.pc y.pools _ en36 (by have:=hy.poolsN;omega) (ha.pools.below hT) (fun W x hW hx=>NG x W (hy.pools x hx) ((ha.poolsAt x hx).below (aDu hT hW))))),
  dM [11] S rfl fun e _ h=>cJ (h.1.1 e),
  aP [8,12] S rfl fun h=>cG h.1 (fun c=>h.2.1.1 c),
  oW [(13,15)] [] S rfl fun _ _ _ h _=>dv kC h.1,
  trivial⟩) ?_
 rintro g1 w1 k1 ⟨s1,-⟩ -
 exact aE (bT rfl k1 s1)
def Us (K:Nat->ByteArray) (y:aX):Bool:=(decide ((((y.rows.length:Nat):Int):Int)<=(64:Int)))&&(decide ((((y.faults.length:Nat):Int):Int)<=(200:Int)))
theorem c_38 (K:Nat->ByteArray) (y) (w) (bY) (hB:Bk bY (aX.cells y) 41 w) (hE:rI K w) (hPh:nE w) (hy:y.Fit K) (ha:y.At w):cT 38 [pt bY 0] w fun v _=>v=.bool (Us K y):=by
 refine aJ (n:=12) func38 rfl ntmps38 (aA1 rfl) (rg (bU (nx ?_)))
 refine sQ (_::_::_::_::_::_::_::_::_::_::_::[]) [(10,1)] [] rfl ⟨aA,aA,aA,aA,aA,aD aA,aD aA,aD aA,aD aA,aA,aA,trivial⟩ (by kernel_rfl) rfl rfl rfl (fun S=>⟨
  jA 0 S rfl fun q=>Bz q,
  fY [0] S rfl fun hT h=>SS h.1 ((hB.below hT).cell 20 rfl),
  aP [1] S rfl fun h=>aY underlying38 h.1,
  aP [2] S rfl fun h=>xV h.1 rfl,
  oW [(3,5)] [] S rfl fun _ _ _ h _=>dv aT h.1,
  qI 0 S rfl fun e q=>CF q,
  dM [5] S rfl fun e hT h=>Ek (h.1.1 e) ((hB.below hT).cell 21 rfl),
  dM [6] S rfl fun e _ h=>aY underlying39 (h.1.1 e),
  dM [7] S rfl fun e _ h=>xV (h.1.1 e) rfl,
  aP [4,8] S rfl fun h=>cG h.1 (fun c=>h.2.1.1 c),
  oW [(9,11)] [] S rfl fun _ _ _ h _=>dv kC h.1,
  trivial⟩) ?_
 rintro g1 w1 k1 ⟨s1,-⟩ -
 exact aE (bT rfl k1 s1)
def QO:List Nat:=[24,27,31,34,38]
def rL (K:Nat->ByteArray) (y:aX):List Bool:=[SN K y,PO K y,Sg K y,Up K y,Us K y]
def bG (K:Nat->ByteArray) (y:aX):Bool:=(rL K y).all id
def JQ (b:Nat) (f:Nat):List Value:=[.func (.func f) #[] #[pt b 0]]
theorem LH (b) (f):(JQ b f).length=1:=rfl
theorem enL {k:Nat} (hk:k<QO.length):∀ args w,(callFunc QO[k] args).run prog w=.ok (.enter QO[k] args) w:=by
 rcases (show k=0\/k=1\/k=2\/k=3\/k=4 from by have:k<5:=hk;omega) with rfl | rfl | rfl | rfl | rfl
 ·exact en24
 ·exact en27
 ·exact en31
 ·exact en34
 ·exact en38
theorem Tp (K:Nat->ByteArray) (y) (bY) (w) (hB:Bk bY (aX.cells y) 41 w) (hE:rI K w) (hPh:nE w) (hy:y.Fit K) (ha:y.At w) (hk:k<QO.length):cT QO[k] [pt bY 0] w fun v _=>v=.bool ((rL K y).getD k false):=by
 rcases (show k=0\/k=1\/k=2\/k=3\/k=4 from by have:k<5:=hk;omega) with rfl | rfl | rfl | rfl | rfl
 ·exact c_24 K y w bY hB hE hPh hy ha
 ·exact c_27 K y w bY hB hE hPh hy ha
 ·exact c_31 K y w bY hB hE hPh hy ha
 ·exact c_34 K y w bY hB hE hPh hy ha
 ·exact c_38 K y w bY hB hE hPh hy ha
theorem Si: (prog.info? 22).map (fun i=>(i.zero,i.size,i.bytes))=some (some .nilFunc,1,8):=by kernel_rfl
section
variable {r:Option Nat} {n:Nat} {ds:List Deferred} {g:Nat->Value} {w:World} {Q:Exit->Act->World->Prop} {l:List Oper} {ops:Array Oper} {ty:TypeId} {pos:String} {aft:Array Edge} {d:Tmp} {x0 x1 x2 x3 x4:Operand}
theorem XU (h0:ev n g x0=.func (.func a) #[] #[pt p 0]) (h1:ev n g x1=.func (.func b) #[] #[pt p 0]) (h2:ev n g x2=.func (.func c) #[] #[pt p 0]) (h3:ev n g x3=.func (.func e) #[] #[pt p 0]) (h4:ev n g x4=.func (.func f) #[] #[pt p 0])
  (h:∀ w',Bk w.heap.size ([a,b,c,e,f].flatMap (JQ p)) 22 w'->Below w.heap.size w w'->w'.heap.size=w.heap.size+1->dY r ops Q l (fr n ds (up g d (.slice (some ⟨w.heap.size,0,none⟩) 5 5))) w'):
  dY r ops Q (⟨some d,.buildSlice 82 5 #[(0,x0),(1,x1),(2,x2),(3,x3),(4,x4)],ty,pos,aft,none⟩::l) (fr n ds g) w:=by
 obtain ⟨i0,hi,hz0,hz1,hz2⟩:=info_parts Si
 refine Lr (sz:=0) (ps:=[(0,x0),(1,x1),(2,x2),(3,x3),(4,x4)]) (ie:=i0) (cells:=[a,b,c,e,f].flatMap (JQ p)) underlying82 hi hz0 (by rw [hz1];rfl) (by rw [hz1];rfl) ?_ h
 rw [hz1];simp only [aC3,aDb,h0,h1,h2,h3,h4];rfl
end
theorem UD {K:Nat->ByteArray} {y:aX} (hP:∀ j,j<k->(rL K y).getD j false=true) (h:(!((rL K y).getD k false))=false):∀ j,j<k+1->(rL K y).getD j false=true:=fun j hj=>by
 rcases aDd j k with h1 | h1
 ·exact hP j h1
 ·rw [show j=k by omega];simpa using h
theorem UQ {K:Nat->ByteArray} {y:aX} (hk:k<QO.length) (h:(!((rL K y).getD k false))=true):bG K y=false:=by
 unfold bG
 have hk':k<(rL K y).length:=hk
 rw [List.getD_eq_getElem?_getD,List.getElem?_eq_getElem hk'] at h
 rw [List.all_eq_false]
 exact ⟨_,aBz hk',by simpa using h⟩
theorem Pi {K:Nat->ByteArray} {y:aX} (h:∀ j,j<QO.length->(rL K y).getD j false=true):bG K y=true:=by
 have h0:SN K y=true:=h 0 (by decide)
 have h1:PO K y=true:=h 1 (by decide)
 have h2:Sg K y=true:=h 2 (by decide)
 have h3:Up K y=true:=h 3 (by decide)
 have h4:Us K y=true:=h 4 (by decide)
 simp [bG,rL,h0,h1,h2,h3,h4]
theorem CE (K:Nat->ByteArray) (y) (w) (hE:rI K w) (hPh:nE w) (hy:y.Fit K) (ha:y.At w):cT 8 [.agg (aX.cells y).toArray] w fun v _=>v=zi (cA 280 (bG K y)):=by
 refine aJ (n:=22) func8 rfl ntmps8 (aA1 rfl) (rg (cO (cs:=aX.cells y) rfl rfl fun w1 B1 k1 z1 =>?_))
 have leB1:=aDl w.heap.size
 refine bU (nx (rg (sq (Aa rfl) (sq (Aa rfl) (sq (Aa rfl) (sq (Aa rfl) (sq (Aa rfl) (XU rfl rfl rfl rfl rfl fun w2 B2 k2 z2 =>?_))))))))
 have nB1_B2:=aC8 B1.lt
 have leB2:=k1.size
 have b3:=aDu k1 k2
 have B1:=B1.below k2
 have hrow:=B2.range
 have hlt:=B2.lt
 refine aW (.slice (some ⟨w1.heap.size,0,none⟩) (5) (5)) rfl (nx (aF (rg (aN (.slice (some ⟨w1.heap.size,0,none⟩) (5) (5)) rfl (sq (aY underlying82 rfl) (rU (nx ?_)))))))
 refine bD (fun k g W=>g 14=zi ((k:Nat):Int)/\g 13=zi (((QO.length:Nat)):Int)/\g 2=zi (0)/\g 12=.slice (some ⟨w1.heap.size,0,none⟩) (5) (5)/\Bk w.heap.size (aX.cells y) 41 W/\Below w2.heap.size w2 W/\Below w.heap.size w W/\(∀ j,j<k->(rL K y).getD j false=true)) QO.length (by decide) (fun _ _ _ h=>⟨h.1,h.2.1⟩) ⟨rfl,rfl,rfl,rfl,B1,aDt _ _,b3,fun j hj=>by omega⟩ rfl rfl (fun _ _ _ _ h=>h) ?_ ?_
 ·
  rintro k g4 w4 hk ⟨s14,s13,s2,s12,B1,b4_w2,b4,hP⟩
  refine rg (sq (bB underlying82 sizeOf22 s12 s14 hk) (sq (ld22 rfl (cQ (JQ w.heap.size) 1 (LH w.heap.size) hrow hlt b4_w2 hk 0 _ rfl)) (aW (.func (.func QO[k]) #[] ([pt w.heap.size 0]).toArray) rfl (nx (rg (aN (.func (.func QO[k]) #[] ([pt w.heap.size 0]).toArray) rfl (RC (caps:=[pt w.heap.size 0]) (enL hk) rfl (ac rfl) (Tp K y w.heap.size _ B1 (hE.below b4) (hPh.below b4) hy (ha.below b4) hk) ?_)))))))
  rintro _ w5 k5 rfl
  have b6:=aDu b4 k5
  have B1:=B1.below k5
  have b7:=aDu b4_w2 k5
  refine sq (cJ rfl) (nx ?_)
  refine cd rfl (fun c8=>?_) (fun c8=>?_)
  ·
   refine rg (bU (nx (aE ?_)))
   exact bT (R:=fun v _=>v=zi (cA 280 (bG K y))) rfl b6 (aD6 (b:=(zi (280):Value)) rfl (aD7 (Value.int .i64) (oH (n:=280) (UQ hk c8)).symm))
  ·
   exact aG (dO ⟨⟨rfl,s13,s2,s12,B1,b7,b6,UD hP c8⟩,s14⟩)
 ·
  rintro g9 w9 ⟨s14,s13,s2,s12,B1,b9_w2,b9,hP⟩
  refine rg (bU (nx (aE ?_)))
  exact bT (R:=fun v _=>v=zi (cA 280 (bG K y))) rfl b9 (aD6 (b:=(zi (0):Value)) rfl (aD7 (Value.int .i64) (uH (n:=280) (Pi hP)).symm))
theorem sA (L) (x:Int):(MY L x).length<=L.length+11:=cR L [x] 1 rfl
theorem pR (L) (x):(AU L x).length<=L.length+22:=cR L [x.at_,x.len] 2 rfl
def Qc (L:List UInt8) (x:lQ):List UInt8:=(L++aR ([x.job,x.pool,x.s1,x.s2,x.s3,x.s4,x.s5,x.s6,x.t1,x.t2,x.t3].map cB))
theorem XG (wb bp) (wp) (hwb:wb=wp.heap.size) (L) (x:lQ) (w) (hb:Below wp.heap.size wp w) (hP:Bk bp [pt wb 0] 147 w) (hbp:bp≠wb) (hS:Wr wb L w) (hx:x.Fit) (hsz:L.length+10000000<=70368744177664):uL wb 96 [.agg (lQ.cells x).toArray,pt bp 0] L (Qc L x) w:=by
 refine aJ (n:=37) func96 rfl ntmps96 (aA1 rfl) (rg (cO (cs:=lQ.cells x) rfl rfl fun w1 B1 k1 z1 =>?_))
 have nhP_B1:=aC8 hP.lt
 have lkB1_w:=aDl w.heap.size
 have hS_B1:=hS
 have leB1_wp:=hb.size
 have leB1_w:=aDl w.heap.size
 have nWB1:w.heap.size≠wb:=aDk hS.lt
 have hP:=hP.below k1
 have hS:=hS.below k1
 have m3:KM (·=wb) w w1:=aDr k1
 refine nx (eO (sq (eI rfl (hP.cell 0 rfl)) (sq (Un rfl) (sq (cZ rfl (B1.cell 0 rfl)) (sq (Uf rfl) (sq (EI rfl (B1.cell 1 rfl)) (sq (tJ rfl) (sq (UP rfl) (sq (cZ rfl (B1.cell 2 rfl)) (sq (tJ rfl) (sq (Ul rfl) (sq (cZ rfl (B1.cell 3 rfl)) ?_))))))))))))
 refine sq (tJ rfl) (sq (RY rfl) (sq (cZ rfl (B1.cell 4 rfl)) (sq (tJ rfl) (sq (UB rfl) (sq (cZ rfl (B1.cell 5 rfl)) (sq (tJ rfl) (sq (Tq rfl) (sq (cZ rfl (B1.cell 6 rfl)) (sq (tJ rfl) (sq (Tf rfl) (sq (cZ rfl (B1.cell 7 rfl)) (sq (El rfl) ?_))))))))))))
 refine sq (Uo rfl) (sq (cZ rfl (B1.cell 8 rfl)) (sq (El rfl) (sq (SP rfl) (sq (cZ rfl (B1.cell 9 rfl)) (sq (El rfl) (sq (Sj rfl) (sq (cZ rfl (B1.cell 10 rfl)) (Md rfl rfl rfl rfl rfl rfl rfl rfl rfl rfl rfl fun v4 w4 k4 r4 =>?_))))))))
 have hS:=hS.below k4
 have m7:=m3.below k4
 refine rN (fst:=[]) (caps:=[]) zU rfl (dZ (a2 rfl rfl)) (gQ wb _ _ _ L [x.job,x.pool,x.s1,x.s2,x.s3,x.s4,x.s5,x.s6,x.t1,x.t2,x.t3] _ hS r4 (by intro n hn;simp only [aC0,aBy,or_false] at hn;rcases hn with rfl | rfl | rfl | rfl | rfl | rfl | rfl | rfl | rfl | rfl | rfl;exact hx.job;exact hx.pool;exact hx.s1;exact hx.s2;exact hx.s3;exact hx.s4;exact hx.s5;exact hx.s6;exact hx.t1;exact hx.t2;exact hx.t3) (by omega)) fun v8 w8 k8 hS =>?_
 have m9:KM (·=wb) w w8:=m7 |>.trans k8
 have hL11:=cR L [x.job,x.pool,x.s1,x.s2,x.s3,x.s4,x.s5,x.s6,x.t1,x.t2,x.t3] 11 rfl
 exact nl (fV rfl ⟨_,rfl,m9,hS⟩)
def NX (L:List UInt8) (x:dI):List UInt8:=oR MY (oR AU (((L++aR ([x.job].map cB))++cD [x.name,x.user,x.pool])++aR ([x.opn].map eH)) x.exts) x.refs
theorem Xz (wb bp) (wp) (hwb:wb=wp.heap.size) (L) (x) (w) (hb:Below wp.heap.size wp w) (hP:Bk bp [pt wb 0] 147 w) (hbp:bp≠wb) (hS:Wr wb L w) (hx:x.Fit) (ha:x.At wp) (hsz:L.length+50000000<=70368744177664):uL wb 80 [.agg (dI.cells x).toArray,pt bp 0] L (NX L x) w:=by
 refine aJ (n:=34) func80 rfl ntmps80 (aA1 rfl) ?_
 have hxn:=hx.name
 have hxu:=hx.user
 have hxp:=hx.pool
 have hxe:=hx.extsN
 have hxr:=hx.refsN
 refine rg (cO (cs:=dI.cells x) rfl rfl fun w1 B1 k1 z1 =>?_)
 have nhP_B1:=aC8 hP.lt
 have lkB1_w:=aDl w.heap.size
 have hS_B1:=hS
 have leB1_wp:=hb.size
 have leB1_w:=aDl w.heap.size
 have nWB1:w.heap.size≠wb:=aDk hS.lt
 have hP:=hP.below k1
 have hS:=hS.below k1
 have b2:=aDu hb k1
 have m3:KM (·=wb) w w1:=aDr k1
 refine nx (rg (sq (eI rfl (hP.cell 0 rfl)) (sq (Bl rfl) (sq (cZ rfl (B1.cell 0 rfl)) (mM rfl fun v4 w4 k4 r4 =>?_)))))
 have hP:=hP.below k4
 have B1:=B1.below k4
 have hS:=hS.below k4
 have b5:=aDu b2 k4
 have m7:=m3.below k4
 refine rN (fst:=[]) (caps:=[]) zU rfl (dZ (a2 rfl rfl)) (gQ wb _ _ _ L [x.job] _ hS r4 (by intro n hn;simp only [aC0,aBy,or_false] at hn;rw [hn];exact hx.job) (by omega)) fun v8 w8 k8 hS =>?_
 have hP:=hP.km k8 hbp
 have B1:=B1.km k8 nWB1
 have m9:KM (·=wb) w w8:=m7 |>.trans k8
 have b10:=aDs k8 b5 b5.size (fun i (hi:i=wb)=>by omega)
 have hL11:=cR L [x.job] 1 rfl
 refine nx (rg (sq (eI rfl (hP.cell 0 rfl)) (sq (Bv rfl) (sq (nY rfl (B1.cell 1 rfl)) (sq (Kk rfl) (sq (nY rfl (B1.cell 2 rfl)) (sq (Ba rfl) (sq (nY rfl (B1.cell 3 rfl)) (Qa rfl rfl rfl fun v12 w12 k12 r12 =>?_)))))))))
 have hP:=hP.below k12
 have B1:=B1.below k12
 have hS:=hS.below k12
 have b13:=aDu b10 k12
 have m14:=m9.below k12
 refine rN (fst:=[]) (caps:=[]) RH rfl (dZ (a2 rfl rfl)) (pS wb _ _ _ (L++aR ([x.job].map cB)) [x.name,x.user,x.pool] _ hS r12 (by have:=Cf x.name x.user x.pool;omega)) fun v15 w15 k15 hS =>?_
 have hP:=hP.km k15 hbp
 have B1:=B1.km k15 nWB1
 have m16:KM (·=wb) w w15:=m14 |>.trans k15
 have b17:=aDs k15 b13 b13.size (fun i (hi:i=wb)=>by omega)
 have hL18:=AR (L++aR ([x.job].map cB)) x.name x.user x.pool
 refine nx (rg (sq (eI rfl (hP.cell 0 rfl)) (sq (Ld rfl) (sq (DB rfl (B1.cell 4 rfl)) (zI rfl fun v19 w19 k19 r19 =>?_)))))
 have hP:=hP.below k19
 have B1:=B1.below k19
 have hS:=hS.below k19
 have FC:=aDu b17 k19
 have m21:=m16.below k19
 refine rN (fst:=[]) (caps:=[]) Ly rfl (dZ (a2 rfl rfl)) (nX wb _ _ _ ((L++aR ([x.job].map cB))++cD [x.name,x.user,x.pool]) [x.opn] _ hS r19 (by omega)) fun v22 w22 k22 hS =>?_
 have hP:=hP.km k22 hbp
 have B1:=B1.km k22 nWB1
 have m23:KM (·=wb) w w22:=m21 |>.trans k22
 have b24:=aDs k22 FC FC.size (fun i (hi:i=wb)=>by omega)
 have hL25:=fE ((L++aR ([x.job].map cB))++cD [x.name,x.user,x.pool]) [x.opn] 1 rfl
 refine nx (rg (sq (eI rfl (hP.cell 0 rfl)) (sq (tE rfl) (sq (uF rfl (B1.cell 5 rfl)) (sq (eI rfl (hP.cell 0 rfl)) (sq (tX rfl) (rN (fst:=[]) (caps:=[]) en81 rfl (dZ (a3 rfl rfl rfl)) (Qn wb wp hwb 82 [pt wb 0] [] AU 22 (fun _=>True) x.eb x.ec x.exts (((L++aR ([x.job].map cB))++cD [x.name,x.user,x.pool])++aR ([x.opn].map eH)) _ en82 hS trivial (fun _ _ _ _=>trivial) b24 ha.exts hx.extsN (fun E y _=>pR E y) (fun E y W hy _ _ hSE hle=>QL wb E y W hSE (hx.exts y hy) (by omega)) (by omega)) fun v26 w26 k26 hS =>?_)))))))
 have hP:=hP.km k26 hbp
 have B1:=B1.km k26 nWB1
 have m27:KM (·=wb) w w26:=m23 |>.trans k26
 have b28:=aDs k26 b24 b24.size (fun i (hi:i=wb)=>by omega)
 have hL29:=fJ (m:=22) (((L++aR ([x.job].map cB))++cD [x.name,x.user,x.pool])++aR ([x.opn].map eH)) x.exts (fun E y _=>pR E y)
 refine nx (eO (sq (eI rfl (hP.cell 0 rfl)) (sq (tH rfl) (sq (Ek rfl (B1.cell 6 rfl)) (sq (eI rfl (hP.cell 0 rfl)) (sq (tX rfl) (rN (fst:=[]) (caps:=[]) ZZ rfl (dZ (a3 rfl rfl rfl)) (RF wb wp hwb 84 [pt wb 0] [] MY 11 (fun _=>True) x.rb x.rc x.refs (oR AU (((L++aR ([x.job].map cB))++cD [x.name,x.user,x.pool])++aR ([x.opn].map eH)) x.exts) _ Zy hS trivial (fun _ _ _ _=>trivial) b28 ha.refs hx.refsN (fun E y _=>sA E y) (fun E y W hy _ _ hSE hle=>Rp wb E y W hSE (hx.refs y hy) (by omega)) (by omega)) fun v30 w30 k30 hS =>?_)))))))
 have m31:KM (·=wb) w w30:=m27 |>.trans k30
 have hL33:=fJ (m:=11) (oR AU (((L++aR ([x.job].map cB))++cD [x.name,x.user,x.pool])++aR ([x.opn].map eH)) x.exts) x.refs (fun E y _=>sA E y)
 exact nl (fV rfl ⟨_,rfl,m31,hS⟩)
theorem CC (L) (x:jC) (hx:x.Fit):(RE L x).length<=L.length+1000022:=by
 have h1:=fB L x.user
 have h2:=cR (L++cD [x.user]) [x.n] 1 rfl
 have:=hx.user
 unfold RE;omega
def Hs (L:List UInt8) (x:bW):List UInt8:=oR RE (oR AU ((L++aR ([x.size,x.grain,x.quota].map cB))++aR ([x.drain,x.best].map eH)) x.free) x.uses
theorem UU (wb bp) (wp) (hwb:wb=wp.heap.size) (L) (x) (w) (hb:Below wp.heap.size wp w) (hP:Bk bp [pt wb 0] 147 w) (hbp:bp≠wb) (hS:Wr wb L w) (hx:x.Fit) (ha:x.At wp) (hsz:L.length+1100000000000<=70368744177664):uL wb 86 [.agg (bW.cells x).toArray,pt bp 0] L (Hs L x) w:=by
 refine aJ (n:=30) func86 rfl ntmps86 (aA1 rfl) ?_
 have hxe:=hx.freeN
 have hxr:=hx.usesN
 refine rg (cO (cs:=bW.cells x) rfl rfl fun w1 B1 k1 z1 =>?_)
 have nhP_B1:=aC8 hP.lt
 have lkB1_w:=aDl w.heap.size
 have hS_B1:=hS
 have leB1_wp:=hb.size
 have leB1_w:=aDl w.heap.size
 have nWB1:w.heap.size≠wb:=aDk hS.lt
 have hP:=hP.below k1
 have hS:=hS.below k1
 have b2:=aDu hb k1
 have m3:KM (·=wb) w w1:=aDr k1
 refine nx (rg (sq (eI rfl (hP.cell 0 rfl)) (sq (sZ rfl) (sq (cZ rfl (B1.cell 0 rfl)) (sq (An rfl) (sq (cZ rfl (B1.cell 1 rfl)) (sq (Fi rfl) (sq (cZ rfl (B1.cell 2 rfl)) (Gf rfl rfl rfl fun v4 w4 k4 r4 =>?_)))))))))
 have hP:=hP.below k4
 have B1:=B1.below k4
 have hS:=hS.below k4
 have b5:=aDu b2 k4
 have m7:=m3.below k4
 refine rN (fst:=[]) (caps:=[]) zU rfl (dZ (a2 rfl rfl)) (gQ wb _ _ _ L [x.size,x.grain,x.quota] _ hS r4 (by intro n hn;simp only [aC0,aBy,or_false] at hn;rcases hn with rfl | rfl | rfl;exact hx.size;exact hx.grain;exact hx.quota) (by omega)) fun v8 w8 k8 hS =>?_
 have hP:=hP.km k8 hbp
 have B1:=B1.km k8 nWB1
 have m9:KM (·=wb) w w8:=m7 |>.trans k8
 have b10:=aDs k8 b5 b5.size (fun i (hi:i=wb)=>by omega)
 have hL11:=cR L [x.size,x.grain,x.quota] 3 rfl
 refine nx (rg (sq (eI rfl (hP.cell 0 rfl)) (sq (Xk rfl) (sq (DB rfl (B1.cell 3 rfl)) (sq (XA rfl) (sq (DB rfl (B1.cell 4 rfl)) (zR rfl rfl fun v12 w12 k12 r12 =>?_)))))))
 have hP:=hP.below k12
 have B1:=B1.below k12
 have hS:=hS.below k12
 have b13:=aDu b10 k12
 have m14:=m9.below k12
 refine rN (fst:=[]) (caps:=[]) Ly rfl (dZ (a2 rfl rfl)) (nX wb _ _ _ (L++aR ([x.size,x.grain,x.quota].map cB)) [x.drain,x.best] _ hS r12 (by omega)) fun v15 w15 k15 hS =>?_
 have hP:=hP.km k15 hbp
 have B1:=B1.km k15 nWB1
 have m16:KM (·=wb) w w15:=m14 |>.trans k15
 have b17:=aDs k15 b13 b13.size (fun i (hi:i=wb)=>by omega)
 have hL18:=fE (L++aR ([x.size,x.grain,x.quota].map cB)) [x.drain,x.best] 2 rfl
 refine nx (rg (sq (eI rfl (hP.cell 0 rfl)) (sq (sC rfl) (sq (uF rfl (B1.cell 5 rfl)) (sq (eI rfl (hP.cell 0 rfl)) (sq (tX rfl) (rN (fst:=[]) (caps:=[]) en81 rfl (dZ (a3 rfl rfl rfl)) (Qn wb wp hwb 82 [pt wb 0] [] AU 22 (fun _=>True) x.fb x.fc x.free ((L++aR ([x.size,x.grain,x.quota].map cB))++aR ([x.drain,x.best].map eH)) _ en82 hS trivial (fun _ _ _ _=>trivial) b17 ha.free hx.freeN (fun E y _=>pR E y) (fun E y W hy _ _ hSE hle=>QL wb E y W hSE (hx.free y hy) (by omega)) (by omega)) fun v19 w19 k19 hS =>?_)))))))
 have hP:=hP.km k19 hbp
 have B1:=B1.km k19 nWB1
 have m20:KM (·=wb) w w19:=m16 |>.trans k19
 have b21:=aDs k19 b17 b17.size (fun i (hi:i=wb)=>by omega)
 have hL22:=fJ (m:=22) ((L++aR ([x.size,x.grain,x.quota].map cB))++aR ([x.drain,x.best].map eH)) x.free (fun E y _=>pR E y)
 refine nx (eO (sq (eI rfl (hP.cell 0 rfl)) (sq (IF rfl) (sq (ZR rfl (B1.cell 6 rfl)) (sq (Aa rfl) (rN (fst:=[]) (caps:=[]) en87 rfl (dZ (a3 rfl rfl rfl)) (XV wb wp hwb 88 [] [pt bp 0] RE 1000022 (fun W=>Bk bp [pt wb 0] 147 W) x.ub x.uc x.uses (oR AU ((L++aR ([x.size,x.grain,x.quota].map cB))++aR ([x.drain,x.best].map eH)) x.free) _ en88 hS hP (fun A B h k=>h.km k hbp) b21 ha.uses hx.usesN (fun E y hy=>CC E y (hx.uses y hy)) (fun E y W hy hI hbW hSE hle=>WJ wb bp wp hwb E y W hbW hI hbp hSE (hx.uses y hy) (by omega)) (by omega)) fun v23 w23 k23 hS =>?_))))))
 have m24:KM (·=wb) w w23:=m20 |>.trans k23
 have hL26:=fJ (m:=1000022) (oR AU ((L++aR ([x.size,x.grain,x.quota].map cB))++aR ([x.drain,x.best].map eH)) x.free) x.uses (fun E y hy=>CC E y (hx.uses y hy))
 exact nl (fV rfl ⟨_,rfl,m24,hS⟩)
theorem Zn {n:Int} (h0:0<=n) (h1:n<=9223372036854775807):IntKind.u64.wrap n=((n.toNat:Nat):Int):=by rw [aCa];omega
def gZ (l:List Int):List Nat:=l.map Int.toNat
theorem KQ {l:List Int} (hk:k<l.length):(B++aR (gZ (l.take k)))++aR [l[k].toNat]=B++aR (gZ (l.take (k+1))):=by
 rw [aAr hk,gZ,gZ,aCo,xI,aBs];rfl
theorem rY (B:List UInt8) (l:List Int):(B++aR (gZ l)).length<=B.length+11*l.length:=by
 rw [aBh];have:=lJ (gZ l);rw [gZ,aCj] at this;unfold gZ;omega
theorem Vn (vb) (c lc) (v1) (B) (l:List Int) (w) (hR:Rd 1 w (.slice vb B.length c) B.length c (bv B)) (hl:Rd 1 w v1 l.length lc (l.flatMap gI)) (hN:l.length<=1000000) (hl0:∀ x∈l,0<=x/\x<=9223372036854775807) (hsz:B.length+11*l.length+22<=70368744177664):
  cT 140 [.slice vb B.length c,v1] w fun v W=>∃ b c',v=.slice b (B++aR (gZ l)).length c'/\Rd 1 W (.slice b (B++aR (gZ l)).length c') (B++aR (gZ l)).length c' (bv (B++aR (gZ l)))/\(∀ i,(Value.slice b (B++aR (gZ l)).length c').ownBlock=some i->(Value.slice vb B.length c).ownBlock=some i\/w.heap.size<=i)/\(l.length=0\/c'=(B++aR (gZ l)).length):=by
 obtain ⟨lb,rfl,hl⟩:=eJ hl
 refine aJ (n:=20) func140 rfl ntmps140 (aA1 rfl) (rg (bU (nx (aF (rg (aN (.slice lb l.length lc) rfl (sq (aY underlying39 rfl) (rU (nx ?_)))))))))
 refine bD (fun k g W=>∃ rb:Option Addr,∃ rn:Nat,∃ rc:Nat,g 9=zi ((k:Nat):Int)/\g 8=zi (((l.length:Nat)):Int)/\g 0=.slice rb rn rc/\g 4=cP/\g 7=.slice lb l.length lc/\Below w.heap.size w W/\(rn=(B++aR (gZ (l.take k))).length/\Rd 1 W (.slice rb rn rc) rn rc (bv (B++aR (gZ (l.take k))))/\(∀ i,(Value.slice rb rn rc).ownBlock=some i->(Value.slice vb B.length c).ownBlock=some i\/w.heap.size<=i)/\(k=0\/rc=rn))) l.length (by omega) (fun _ _ _ ⟨rb,rn,rc,h⟩=>⟨h.1,h.2.1⟩) ⟨vb,B.length,c,rfl,rfl,rfl,rfl,rfl,aDt _ _,⟨by simp [gZ,aR],by simpa [gZ,aR] using hR,fun i hi=>.inl hi,.inl rfl⟩⟩ rfl rfl (fun _ _ _ _ h=>h) ?_ ?_
 ·
  rintro k g1 w1 hk ⟨rb,rn,rc,s9,s8,s0,s4,s7,b1,⟨hrn,hRb,hob,hcn⟩⟩
  obtain ⟨g,o,rfl,hg,hr⟩:=aD5 hl (aBg (aDm _) hk)
  refine rg (sq (bB underlying39 sizeOf2 s7 s9 hk) (sq (cZ rfl (cQ gI 1 jR hr hg b1 hk 0 _ rfl)) (aW (zi (l[k])) rfl (nx (eO (bI s0 (aN (zi (l[k])) rfl (iJ (.int .u64 ((l[k].toNat:Nat):Int)) (pO underlying2 underlying104 rfl) (aD7 (Value.int .u64) (Zn (hl0 _ (aBz hk)).1 (hl0 _ (aBz hk)).2)) (Ao rfl fun v2 w2 k2 r2 =>?_)))))))))
  have b3:=aDu b1 k2
  have hw9:=(b3).size
  refine cE TT (a2 rfl rfl) (kP (Pt (L:=[l[k].toNat]) (hRb.below k2) r2 (fun x hx=>by rw [aBj.1 hx];have:=hl0 _ (aBz hk);omega) (by have:=rY B (l.take k);rw [aB7] at this;omega))) ?_
  rintro v4 w4 k4 ⟨nb,rfl,hN7,hn9⟩
  have b5:=aDu b3 k4
  exact aW (.slice nb (((B++aR (gZ (l.take k)))++aR [l[k].toNat]).length) (((B++aR (gZ (l.take k)))++aR [l[k].toNat]).length)) rfl (nl (dO ⟨⟨nb,((B++aR (gZ (l.take k)))++aR [l[k].toNat]).length,((B++aR (gZ (l.take k)))++aR [l[k].toNat]).length,rfl,s8,rfl,s4,s7,b5,⟨by rw [KQ hk],by rw [<- KQ hk];exact hN7,fun i hi=>.inr (aC7 hw9 (hn9 i hi)),.inr rfl⟩⟩,s9⟩))
 ·
  rintro g7 w7 ⟨rb,rn,rc,s9,s8,s0,s4,s7,b7,⟨hrn,hRb,hob,hcn⟩⟩
  refine rg (bI s0 (aW (.slice rb rn rc) rfl (nx (aE ?_))))
  rw [aCb] at hrn hRb
  exact bT rfl b7 ⟨rb,rc,by rw [<- hrn];exact rfl,by rw [<- hrn];exact hRb.below (aDt _ _),by rw [<- hrn];exact hob,hrn ▸ hcn⟩
def Pk (m:Nat) (o:Option Nat) (R:List UInt8) (v:Value) (w:World):Prop:=Rd 1 w v R.length R.length (bv R)/\∀ i,v.ownBlock=some i->o=some i\/m<=i
theorem Oy: Yy (Pk m o R):=fun _ _ _ h k=>⟨h.1.below k,h.2⟩
theorem Jp (hm:m<=w.heap.size) (h:Calls prog f args.toArray w (kR w R)):cT f args w fun v W=>Pk m o R v W:=by
 refine (show Calls prog f args.toArray w _ from kP h).mono ?_
 rintro e w' ⟨v,rfl,hb,b,rfl,h1,h2⟩
 exact ⟨_,rfl,hb,h1,fun i hi=>.inr (aC7 hm (h2 i hi))⟩
theorem Qy {L:List ByteArray} (hk:k<=w.heap.size) (hv:Rd 1 w v n c (bv B)) (hl:Rd 1 w v1 m mc (sv L)) (hsz:n+(cD L).length+22<=70368744177664):cT 142 [v,v1] w fun u W=>Pk k o (B++cD L) u W:=by
 obtain ⟨b,rfl,hv⟩:=eJ hv
 obtain ⟨b1,rfl,hl⟩:=eJ hl
 exact Jp hk (DG hv hl hsz)
theorem OP {L:List Bool} (hk:k<=w.heap.size) (hv:Rd 1 w v n c (bv B)) (hl:Rd 1 w v1 m mc (fv L)) (hsz:n+11*m+11<=70368744177664):cT 141 [v,v1] w fun u W=>Pk k o (B++aR (L.map eH)) u W:=by
 obtain ⟨b,rfl,hv⟩:=eJ hv
 obtain ⟨b1,rfl,hl⟩:=eJ hl
 exact Jp hk (GE hv hl hsz)
theorem Rq {l:List Int} (hk:k<=w.heap.size) (hR:Rd 1 w v n c (bv B)) (hl:Rd 1 w v1 l.length lc (l.flatMap gI)) (h0:l.length≠0) (hN:l.length<=1000000) (hl0:∀ x∈l,0<=x/\x<=9223372036854775807) (hsz:n+11*l.length+22<=70368744177664):
  cT 140 [v,v1] w fun u W=>Pk k v.ownBlock (B++aR (gZ l)) u W:=by
 have hn:=xR hR
 subst hn
 obtain ⟨b,rfl,hR⟩:=eJ hR
 refine (show Calls prog 140 _ w _ from Vn b c lc v1 B l w hR hl hN hl0 hsz).mono ?_
 rintro e w' ⟨u,rfl,hb,b',c',rfl,h1,h2,h3⟩
 rcases h3 with h3 | h3
 ·exact absurd h3 h0
 ·subst h3
  exact ⟨_,rfl,hb,h1,fun i hi=>(h2 i hi).imp id (aC7 hk)⟩
def Ga (L:List UInt8) (p:ByteArray × eY):List UInt8:=((L++cD [p.2.name])++aR (gZ [p.2.size,p.2.grain,p.2.quota]))++aR ([p.2.best].map eH)
theorem LO (L) (p:ByteArray × eY) (hp:p.2.Fit):(Ga L p).length<=L.length+1000055:=by
 have h1:=fB L p.2.name
 have h2:=rY (L++cD [p.2.name]) [p.2.size,p.2.grain,p.2.quota]
 have h3:=fE ((L++cD [p.2.name])++aR (gZ [p.2.size,p.2.grain,p.2.quota])) [p.2.best] 1 rfl
 have:=hp.name
 simp only [aB3,aCk] at h2
 unfold Ga;omega
def half (L:Nat->Int) (x:Int):Int:=bits .xor .u64 (L (bits .and .u64 x 15).toNat) (x / 16)
def yO (L:Nat->Int) (x:Int):Nat->Int
 | 0=>x
 | k+1=>half L (yO L x k)
def Ob (L:Nat->Int) (r c:Int):Int:=yO L (bits .xor .u64 r (IntKind.u64.wrap c)) 2
theorem Rc (L:Nat->Int) {x:Int} (h0:0<=x) (h1:x<=18446744073709551615):∀ k,0<=yO L x k/\yO L x k<=18446744073709551615
 | 0=>⟨h0,h1⟩
 | k+1=>by unfold yO half;exact ⟨bits_lo_u64 _ _ _,bits_hi_u64 _ _ _⟩
theorem and15 {x:Int} (h0:0<=x) (h1:x<=18446744073709551615):0<=bits .and .u64 x 15/\bits .and .u64 x 15<16:=by
 have:=bits_mask .u64 64 (by decide) (fun n h0 h1=>by rw [aCa];omega) 4 (by decide) x h0 (by omega)
 rw [show (2:Int) ^ 4 - 1=15 from rfl,show (2:Int) ^ 4=16 from rfl] at this
 omega
def Reg (b:Nat) (x:Int) (w:World):Prop:=w.cell? ⟨b,0,none⟩=some (.int .u64 x)/\w.frozen? ⟨b,0,none⟩=false
def Dn (bl:Nat) (L:Nat->Int) (w:World):Prop:=∀ i,i<16->w.cell? ⟨bl,i,none⟩=some (.int .u64 (L i))
set_option maxHeartbeats 800000 in
theorem ON (br bl:Nat) (r c:Int) (L:Nat->Int) (w:World) (hne:bl≠br) (hr:Reg br r w) (hl:Dn bl L w):
  Calls prog 221 #[.int .u8 c,.pointer (some ⟨br,0,none⟩),.pointer (some ⟨bl,0,none⟩)] w fun e w'=>e=.returned (.tuple #[])/\aS br w w'/\Reg br (Ob L r c) w':=by
 obtain ⟨hc,hf⟩:=hr
 have hx:=bits_lo_u64 .xor r (IntKind.u64.wrap c)
 have hy:=bits_hi_u64 .xor r (IntKind.u64.wrap c)
 have HX:=aEb (And.intro hx hy)
 have HL:=aEb hl
 clear hl hx hy
 go_enter func221, ntmps221
 go_wp2
 go_loopw [8] (fun i wr => ∃ k : Nat, i = .int .i64 k /\ k <= 2 /\ aS br w wr /\ Reg br (yO L (bits .xor .u64 r (IntKind.u64.wrap c)) k) wr) (fun i _ => 2 - (intOf i).toNat)
 case atStart=>exact ⟨0,rfl,by omega,(aS.refl _ _).setCell _ _,World.cell?_setCell_same' _ _ _ (by rw [hc];rfl),by rw [World.frozen?_setCell];exact hf⟩
 case round=>
  obtain ⟨k,rfl,hk,ho,hc,hf⟩:=hrel
  by_cases h2:k<2
  ·have HE:Hid (half L (yO L (bits .xor .u64 r (IntKind.u64.wrap c)) k)=yO L (bits .xor .u64 r (IntKind.u64.wrap c)) (k+1)):=aEb rfl
   obtain ⟨h0,h1⟩:=Rc L HX.out.1 HX.out.2 k
   generalize yO L (bits .xor .u64 r (IntKind.u64.wrap c)) k=x at *
   have hi:=and15 h0 h1
   obtain ⟨hi0,hi1⟩:=hi
   have ht:wr.cell? ⟨bl,(bits .and .u64 x 15).toNat,none⟩=some (.int .u64 (L (bits .and .u64 x 15).toNat)):=ho.cell (HL.out _ (by omega)) hne
   go_wp2
   go_region
   all_goals
    go_wp2
    go_roundw
    case rel => exact ⟨k + 1, by go_num, by omega, (ho.setCell _ _).drew, by rw [<- HE.out]; exact World.cell?_setCell_same' _ _ _ (by rw [hc]; rfl), by rw [World.frozen?_drew, World.frozen?_setCell]; exact hf⟩
    case measure=>simp [intOf];omega
  ·obtain rfl:k=2:=by omega
   go_wp2
   go_end0
   exact ⟨rfl,ho,hc,hf⟩
def jS (r:Int):Int:=if (bits .and .u64 r 1 == 1)=true then bits .xor .u64 (r / 2) 14514072000185962306 else r / 2
def hN (r:Int):Nat->Int
 | 0=>r
 | k+1=>jS (hN r k)
def nN (i:Nat):Int:=hN i 4
theorem Ww {r:Int} (h0:0<=r) (h1:r<=18446744073709551615):∀ k,0<=hN r k/\hN r k<=18446744073709551615
 | 0=>⟨h0,h1⟩
 | k+1=>by
  have:=Ww h0 h1 k
  unfold hN jS
  split
  ·exact ⟨bits_lo_u64 _ _ _,bits_hi_u64 _ _ _⟩
  ·omega
theorem Em {w:World} {cs:Array Value} {fr:Nat × Nat} (hg:w.heap[b]? = some (.cells cs t fr)) (i) (v):(w.setCell ⟨b,i,none⟩ v).heap[b]? = some (.cells (cs.setIfInBounds i v) t fr):=by
 simp [World.setCell,Array.getElem?_modify,hg]
theorem Bs: (prog.info? 305).map (·.size)=some 16:=by kernel_rfl
def AG (b k:Nat) (w:World):Prop:=∃ cs:Array Value,cs.size=16/\w.heap[b]? = some (.cells cs 305 (0,0))/\∀ i,i<k->cs[i]? = some (.int .u64 (nN i))
theorem AG.step (h:AG b k w) (hk:k<16):AG b (k+1) (w.setCell ⟨b,k,none⟩ (.int .u64 (nN k))):=by
 obtain ⟨cs,h1,h2,h3⟩:=h
 refine ⟨cs.setIfInBounds k (.int .u64 (nN k)),by simpa using h1,Em h2 _ _,fun i hi=>?_⟩
 by_cases e:i=k
 ·subst e;simp [h1,hk]
 ·rw [Array.getElem?_setIfInBounds_ne (fun x=>e x.symm)];exact h3 i (by omega)
theorem AG.here (h:AG b k w) (i:Nat) (hi:i<16):(w.cell? ⟨b,i,none⟩).isSome=true/\w.frozen? ⟨b,i,none⟩=false:=by
 obtain ⟨cs,h1,h2,h3⟩:=h
 constructor
 ·simp [World.cell?,h2,h1,hi]
 ·simp [World.frozen?,h2]
def zM:Array Value:=#[.int .u64 (nN 0),.int .u64 (nN 1),.int .u64 (nN 2),.int .u64 (nN 3),.int .u64 (nN 4),.int .u64 (nN 5),.int .u64 (nN 6),.int .u64 (nN 7),.int .u64 (nN 8),.int .u64 (nN 9),.int .u64 (nN 10),.int .u64 (nN 11),.int .u64 (nN 12),.int .u64 (nN 13),.int .u64 (nN 14),.int .u64 (nN 15)]
theorem KL (i) (hi:i<16):zM[i]? = some (.int .u64 (nN i)):=by
 obtain rfl | rfl | rfl | rfl | rfl | rfl | rfl | rfl | rfl | rfl | rfl | rfl | rfl | rfl | rfl | rfl:i=0\/i=1\/i=2\/i=3\/i=4\/i=5\/i=6\/i=7\/i=8\/i=9\/i=10\/i=11\/i=12\/i=13\/i=14\/i=15:=by omega
 all_goals rfl
theorem AG.whole (h:AG b 16 w):w.heap[b]? = some (.cells zM 305 (0,0)):=by
 obtain ⟨cs,h1,h2,h3⟩:=h
 have:cs=zM:=by
  apply Array.ext (by rw [h1];rfl)
  intro i h4 h5
  have:=h3 i (by omega)
  have h6:=KL i (by omega)
  rw [Array.getElem?_eq_getElem h4] at this
  rw [Array.getElem?_eq_getElem h5] at h6
  exact aCp (this.trans h6.symm)
 rw [<- this];exact h2
theorem Gq: zM.all (·.oneCell')=true:=by simp [zM,Value.oneCell']
theorem Au {w:World} {cs:Array Value} {fr:Nat × Nat} (hg:w.heap[b]? = some (.cells cs t fr)) (c:Array Value):(w.setRow b c).heap[b]? = some (.cells c t fr):=by
 simp [World.setRow,Array.getElem?_modify,hg]
theorem yL (w) (h:B<=b) (c:Array Value):Below B w (w.setRow b c):=
 ⟨rfl,rfl,rfl,by simp [World.setRow],fun k hk=>by simp only [World.setRow,Array.getElem?_modify];rw [aEd (by omega)]⟩
@[simp] theorem size_setRow (w:World) (b) (c:Array Value):(w.setRow b c).heap.size=w.heap.size:=by simp [World.setRow]
theorem MM {r:Int} (h:(bits .and .u64 r 1 == 1)=true):jS r=bits .xor .u64 (r / 2) 14514072000185962306:=by unfold jS;rw [aEc h]
theorem QK {r:Int} (h:(bits .and .u64 r 1 == 1)=false):jS r=r / 2:=by unfold jS;rw [aEd (by rw [h];exact aBf)]
set_option maxHeartbeats 1600000 in
theorem Jh (w:World):Calls prog 220 #[] w fun e w'=>e=.returned (.agg zM)/\Below w.heap.size w w':=by
 go_enter func220, ntmps220
 go_wp2
 go_loopw [1, 2, 3, 4, 9] (fun _ _ _ i _ wr => ∃ k : Nat, i = .int .i64 k /\ k <= 16 /\ Below w.heap.size w wr /\ AG w.heap.size k wr) (fun _ _ _ i _ _ => 16 - (intOf i).toNat)
 case atStart=>exact ⟨0,rfl,by omega,(aDt _ _).alloc (aDl _) _,_,rfl,oG _ _,fun i hi=>by omega⟩
 case round=>
  obtain ⟨k,rfl,hk,hb,hrow⟩:=hrel
  by_cases h2:k<16
  ·go_wp2
   go_loopw [2, 3, 9] (fun r _ j w2 => ∃ m : Nat, j = .int .i64 m /\ m <= 4 /\ w2 = wr /\ r = .int .u64 (hN k m)) (fun _ _ j _ => 4 - (intOf j).toNat)
   case atStart=>exact ⟨0,rfl,by omega,rfl,by simp [hN]⟩
   case round=>
    obtain ⟨m,rfl,hm,rfl,rfl⟩:=hrel
    have HE:Hid (jS (hN k m)=hN k (m+1)):=aEb rfl
    obtain ⟨b0,b1⟩:=Ww (r:=k) (by omega) (by omega) m
    by_cases h3:m<4
    ·generalize hN k m=x at *
     cases hx:(bits .and .u64 x 1 == 1)
     ·have HX:=aEb (QK hx)
      go_wp2
      go_roundw
      case rel => exact ⟨m + 1, by go_num, by omega, trivial, by rw [<- HE.out, HX.out]⟩
      case measure=>simp [intOf];omega
     ·have HX:=aEb (MM hx)
      go_wp2
      go_roundw
      case rel => exact ⟨m + 1, by go_num, by omega, trivial, by rw [<- HE.out, HX.out]⟩
      case measure=>simp [intOf];omega
    ·obtain rfl:m=4:=by omega
     obtain ⟨hc,hf⟩:=hrow.here k h2
     have hst:=hrow.step h2
     have HS:=aEb hst
     clear hst
     obtain ⟨c0,hc⟩:=aAx.1 hc
     go_wp2
     go_roundw
     case rel => exact ⟨k + 1, by go_num, by omega, hb.setCell (aDl _) _, HS.out⟩
     case measure=>simp [intOf];omega
  ·obtain rfl:k=16:=by omega
   have hw:=hrow.whole
   have HW:=aEb hw
   clear hw hrow
   go_wp2_with (first | (refine wpList_load_row rfl 305 _ rfl w.heap.size rfl 305 zM (0, 0) _ HW.out underlying305 rfl Bs ?_) | (refine wpList_store_row rfl 305 _ _ rfl w.heap.size zM rfl rfl 305 zM HW.out Bs rfl Gq ?_))
   refine bodyPost_ret (v:=.agg zM) (results_cell_row (P:=prog) rfl _ _ w.heap.size 305 zM (0,0) _ rfl (Au HW.out _) underlying305 rfl Bs) rfl ⟨rfl,hb.trans (yL _ (aDl _) _)⟩
def LU (r:Int) (l:List UInt8):Int:=l.foldl (fun r c=>Ob nN r (c.toNat:Int)) r
def LF (x:Int):Int:=bits .xor .u64 IntKind.u64.max x
def Jd (l:List UInt8):Int:=LF (LU (LF 0) l)
theorem LA (r:Int) (l) (c:UInt8):LU r (l++[c])=Ob nN (LU r l) (c.toNat:Int):=by simp [LU]
theorem MC (s:ByteArray) (k:Nat) (h:k<s.size):s.data.toList.take (k+1)=s.data.toList.take k++[s[k]]:=by
 rw [aAr (by simpa using h)];rfl
theorem Qp {fr:Nat × Nat} (h:w.heap[b]? = some (.cells zM 305 fr)):Dn b nN w:=fun i hi=>by
 simp only [World.cell?,h]
 exact KL i hi
theorem Dn.only {L:Nat->Int} (h:Dn b L w) (k:aS br w w') (hn:b≠br):Dn b L w':=fun i hi=>k.cell (h i hi) hn
set_option maxRecDepth 100000 in
set_option maxHeartbeats 1600000 in
theorem ND (s:ByteArray) (w:World) (hs:s.size<=140737488351232):Calls prog 174 #[.int .u64 0,.string s] w fun e w'=>e=.returned (.int .u64 (Jd s.data.toList))/\Below w.heap.size w w':=by
 go_enter func174, ntmps174
 go_wp2_with fail
 refine (Jh _).mono ?_
 rintro e w1 ⟨rfl,hb1⟩
 have hsz:=hb1.size
 go_wp2_with (refine wpList_store_row rfl 305 _ _ rfl w1.heap.size zM rfl rfl 305 _ (oG _ _) Bs rfl Gq ?_)
 go_loopw [8, 15] (fun _ i wr => ∃ k : Nat, i = .int .i64 k /\ k <= s.size /\ Below w.heap.size w wr /\ Reg (w1.heap.size + 1) (LU (LF 0) (s.data.toList.take k)) wr /\ Dn w1.heap.size nN wr /\ w1.heap.size + 2 <= wr.heap.size) (fun _ i _ => s.size - (intOf i).toNat)
 case atStart=>
  exact ⟨0,rfl,aDm _,((hb1.alloc hb1.size _).trans (yL _ hb1.size _)).alloc (by simp;omega) _,⟨(kE _ _ _ _ (by simp)).trans rfl,Ji _ _ _ _ (by simp)⟩,
   Qp (Hj _ _ (Au (oG _ _) _)),by simp⟩
 case round=>
  obtain ⟨k,rfl,hk,hb,hreg,htab,hz⟩:=hrel
  by_cases h2:k<s.size
  ·go_wp2_with fail
   refine (ON _ _ _ _ _ _ (by omega) hreg htab).mono ?_
   rintro e w2 ⟨rfl,ho,hreg2⟩
   have HS:=aEb (MC s k h2)
   go_wp2_with fail
   go_roundw
   case rel => exact ⟨k + 1, by go_num, by omega, ho.toBelow hb (by omega) (by omega), by rw [HS.out, LA]; exact hreg2, htab.only ho (by omega), by have := ho.size; omega⟩
   case measure=>simp [intOf];omega
  ·obtain rfl:k=s.size:=by omega
   obtain ⟨hc,_⟩:=hreg
   go_wp2
   go_ret
   refine ⟨?_,hb⟩
   show Ending.returned (.int .u64 (LF (LU (LF 0) (s.data.toList.take s.size))))=_
   rw [aAz (by simp)]
   rfl
set_option maxHeartbeats 400000 in
theorem UK (s:ByteArray) (w:World) (hs:s.size<=140737488351232):Calls prog 123 #[.string s] w fun e w'=>e=.returned (.int .u64 (Jd s.data.toList))/\Below w.heap.size w w':=by
 go_enter func123, ntmps123
 go_wp2_with fail
 refine (ND s _ hs).mono ?_
 rintro e w1 ⟨rfl,hb1⟩
 go_wp2
 go_ret
 exact ⟨rfl,hb1⟩
theorem UL (l):0<=Jd l/\Jd l<=18446744073709551615:=by unfold Jd LF;exact ⟨bits_lo_u64 _ _ _,bits_hi_u64 _ _ _⟩
def Vx (x:Nat):Nat->List UInt8
 | 0=>[]
 | k+1=>Vx x k++[UInt8.ofNat (x / 256 ^ k)]
theorem EF (x):∀ k,(Vx x k).length=k
 | 0=>rfl
 | k+1=>by simp [Vx,EF x k]
def kD (l:List UInt8):List UInt8:=l++Vx (Jd l).toNat 8
theorem Ma (l):(kD l).length=l.length+8:=by simp [kD,EF]
theorem Sk (x:Nat):((x:Int) % 256)=((UInt8.ofNat x).toNat:Int):=by
 have:(UInt8.ofNat x).toNat=x % 256:=by simp
 rw [this];omega
theorem uO (h:Rd 1 w v n c (bv l)):(convert 148 9 v).run prog w=.ok (.string ⟨l.toArray⟩) w:=by
 obtain ⟨h1,_,_,⟨rfl,rfl,_⟩ | ⟨g,o,rfl,_,hr⟩⟩:=h
 ·have:l=[]:=aAt (by rw [zH] at h1;omega)
  subst this
  exact run_convert_bytes_nil (P:=prog) w 148 5 underlying148 underlying5 0 0 9 underlying9
 ·rw [zH,Nat.mul_one] at h1
  subst h1
  exact run_convert_bytes_back w 148 9 5 _ c l underlying148 underlying5 underlying9 (fun j hj=>by rw [aDf];exact hr j _ (by simp [bv,hj]))
theorem Hv {Q:Exit->Act->World->Prop} (hgd:o.guard=none) (sl x)
  (ho:o.op=.call { callee:=.builtin .append,args:=#[sl,x],argTypes:=#[148,9] }) (base)
  (v) (n) (xs) (hs:a.eval sl=v) (hown:w.ownsRow base 5 1 v n xs) (s) (hx:a.eval x=.string s)
  (hb:n+s.size<=140737488355328) (hbase:base<=w.heap.size)
  (h:∀ v' w',w'.ownsRow base 5 1 v' (n+s.size) (xs++bv s.data.toList)->w.grownBy w' v.ownBlock->(v'=cP->v=cP)->wpList prog ops Q rest (a.put o.dst v') w'):wpList prog ops Q (o::rest) a w:=by
 obtain ⟨i0,hi,hz0,hz1,hz2⟩:=info_parts GM
 exact Lib.wpList_append_own_string w hgd sl x 148 9 ho base 5 i0 underlying148 underlying9 hi hz0 hz1 hz2 v n xs hs hown s hx (by unfold maxLen;omega) hb hbase fun v' w' h1 h2 h3=>h v' w' h1 h2 fun e=>(h3.1 e).1
set_option maxRecDepth 100000 in
set_option maxHeartbeats 1600000 in
theorem xX (s:ByteArray) (w:World) (hs:s.size<=70368744177664):Calls prog 40 #[.string s] w fun e w'=>e=.returned (.string ⟨(kD s.data.toList).toArray⟩)/\Below w.heap.size w w':=by
 obtain ⟨i0,hi,hz0,hz1,hz2⟩:=info_parts GM
 have HI:=aEb (And.intro hi (And.intro hz0 (And.intro hz1 hz2)))
 clear hi hz0 hz1 hz2
 go_enter func40, ntmps40
 go_wp2_with fail
 with_reducible refine (UK s _ (by omega)).mono ?_
 rintro e w1 ⟨rfl,hb1⟩
 obtain ⟨hx0,hx1⟩:=UL s.data.toList
 obtain ⟨x,hx⟩:=Int.eq_ofNat_of_zero_le hx0
 have HX:Hid ((Jd s.data.toList).toNat=x):=aEb (by omega)
 rw [hx] at hx1
 clear hx0
 rw [hx]
 clear hx
 have hle:=hb1.size
 go_wp2_with (first
  | (refine wpList_make_own _ rfl _ _ 148 rfl w.heap.size 5 i0 (.int .u8 0) 1 underlying148 HI.out.1 HI.out.2.1 HI.out.2.2.1 .i64 .i64 _ (s.size+8) rfl rfl (by simp) (by rw [HI.out.2.2.2];omega) (by unfold maxLen;omega) hle ?_;intro w2 hown2 hgrow2)
  | (at_builtin;refine Hv rfl (.tmp 10) (.tmp 11) rfl w.heap.size _ 0 [] rfl hown2 s rfl (by omega) (aC7 hle hgrow2.size) ?_;intro v3 w3 hown3 hgrow3 hnil3))
 have h0:zO w.heap.size w s.data.toList [] v3 w3:=by
  refine ⟨?_,fun e=>?_,?_⟩
  ·simpa using hown3
  ·cases hnil3 e
  ·exact (hb1.grown hgrow2 hle (fun k e=>by cases e)).grown hgrow3 (aC7 hle hgrow2.size) (fun k e=>by cases e;exact hle)
 clear hown2 hown3 hgrow2 hgrow3 hnil3
 go_loopw [3, 4, 13] (fun z vo i wr => ∃ k : Nat, i = .int .i64 k /\ k <= 8 /\ z = .int .u64 ((x / 256 ^ k : Nat) : Int) /\ zO w.heap.size w s.data.toList (Vx x k) vo wr) (fun _ _ i _ => 8 - (intOf i).toNat)
 case atStart=>exact ⟨0,rfl,aDm _,by simp,h0⟩
 case round=>
  obtain ⟨k,rfl,hk,rfl,how⟩:=hrel
  clear h0
  have HH:=how.2.2.size
  have HO:=aEb how
  by_cases hlt:k<8
  ·clear how
   have hE:x / 256 ^ k / 256=x / 256 ^ (k+1):=by rw [Nat.div_div_eq_div_mul,aDg]
   have HE:=aEb hE
   have hy:x / 256 ^ k<=18446744073709551615:=aC7 (Nat.div_le_self _ _) (by omega)
   have hL:Hid (Vx x k++[UInt8.ofNat (x / 256 ^ k)]=Vx x (k+1)):=aEb rfl
   have hbd:s.data.toList.length+(Vx x k).length+1<=140737488355328:=by simp [EF];omega
   clear hE
   generalize x / 256 ^ k=y at *
   go_wp2_with (at_builtin; refine sU rfl (.tmp 15) (.tmp 18) rfl _ _ _ _ _ _ rfl HO.out HH _ _ (Sk y) rfl hbd ?_; intro v4 w4 how4)
   go_roundw
   case rel => exact ⟨k + 1, by go_num, by omega, by rw [<- HE.out]; go_num, by rw [<- hL.out]; exact how4⟩
   case measure=>simp [intOf];omega
  ·obtain rfl:k=8:=by omega
   obtain ⟨c,hrd⟩:=Rd.own how.1
   have hconv:=uO hrd
   have hbl:=how.2.2
   clear how hrd
   go_wp2
   go_ret
   exact ⟨by unfold kD;rw [HX.out];rfl,hbl⟩
set_option maxRecDepth 100000 in
set_option maxHeartbeats 800000 in
theorem IR (s:ByteArray) (w:World) (hs:s.size<8):Calls prog 10 #[.string s] w fun e w'=>e=.returned (.tuple #[.string ⟨#[]⟩,.bool false])/\Below w.heap.size w w':=by
 go_enter func10, ntmps10
 go_wp2
 go_ret2
 exact ⟨rfl,aDt _ _⟩
theorem Dw (l:List UInt8) (s:ByteArray):(l == s.toList)=(l == s.data.toList):=by rw [aBc]
theorem Ph (s:ByteArray):(s.extract 0 (s.size - 8)).data.toList=s.data.toList.take (s.size - 8):=by
 rw [ByteArray.data_extract,Array.toList_extract];simp only [List.extract_eq_take_drop,List.drop_zero,Nat.sub_zero]
set_option maxRecDepth 100000 in
set_option maxHeartbeats 800000 in
theorem Uq (s:ByteArray) (w:World) (h8:8<=s.size) (hs:s.size<=70368744177664) (hq:(kD (s.data.toList.take (s.size - 8)) == s.data.toList)=false):Calls prog 10 #[.string s] w fun e w'=>
  e=.returned (.tuple #[.string ⟨#[]⟩,.bool false])/\Below w.heap.size w w':=by
 have HX:=aEb (Ph s)
 have hsz:(s.extract 0 (s.size - 8)).size<=70368744177664:=by rw [aA0];omega
 have hn:¬ ((s.size:Int) - 8<0):=by omega
 have HQ:=aEb ((Dw (kD (s.data.toList.take (s.size - 8))) s).trans hq)
 clear hq
 go_enter func10, ntmps10
 go_wp2_with fail
 with_reducible refine (xX _ _ hsz).mono ?_
 rintro e w1 ⟨rfl,hb1⟩
 rw [HX.out]
 have hq:=HQ.out
 generalize kD (s.data.toList.take (s.size - 8))=l at *
 go_wp2
 go_ret2
 exact ⟨rfl,hb1⟩
set_option maxRecDepth 100000 in
set_option maxHeartbeats 800000 in
theorem PQ (s:ByteArray) (w:World) (h8:8<=s.size) (hs:s.size<=70368744177664) (hq:(kD (s.data.toList.take (s.size - 8)) == s.data.toList)=true):Calls prog 10 #[.string s] w fun e w'=>
  e=.returned (.tuple #[.string (s.extract 0 (s.size - 8)),.bool true])/\Below w.heap.size w w':=by
 have HX:=aEb (Ph s)
 have hsz:(s.extract 0 (s.size - 8)).size<=70368744177664:=by rw [aA0];omega
 have hn:¬ ((s.size:Int) - 8<0):=by omega
 have HQ:=aEb ((Dw (kD (s.data.toList.take (s.size - 8))) s).trans hq)
 clear hq
 go_enter func10, ntmps10
 go_wp2_with fail
 with_reducible refine (xX _ _ hsz).mono ?_
 rintro e w1 ⟨rfl,hb1⟩
 rw [HX.out]
 have hq:=HQ.out
 generalize kD (s.data.toList.take (s.size - 8))=l at *
 obtain rfl:l=s.toList:=by simpa using hq
 clear hq
 go_wp2
 go_ret2
 exact ⟨rfl,hb1⟩
theorem aAg {g:Nat->Value} {t u:Tmp} (hr:fn.results=#[.tmp t,.tmp u]):(results fn (fr n [] g).tmps).run prog w=.ok (.tuple #[ev n g (.tmp t),ev n g (.tmp u)]) w:=by
 have ht:(fr n [] g).tmps.getD t undef=ev n g (.tmp t):=congrFun (bV n [] g) (.tmp t)
 have hu:(fr n [] g).tmps.getD u undef=ev n g (.tmp u):=congrFun (bV n [] g) (.tmp u)
 unfold results
 simp only [hr]
 simp only [Array.getD_eq_getD_getElem?] at ht hu
 simp [go_sem, ht, hu]
def nC (s:aZ):List UInt8:=[]++aR (gZ [s.nodes,(s.pools.length:Int)])
def sP (s:aZ) (k:Nat):List UInt8:=((aU s.pools).take k).foldl Ga (nC s)
def wC (s:aZ):List UInt8:=(aU s.pools).foldl Ga (nC s)
def sG (s:aZ) (i:Nat):List UInt8:=(List.range i).foldl (fun L i=>L++aR (gZ [jU s i])) (wC s)
def AH (s:aZ):List UInt8:=sG s 10
def dW (s:aZ):ByteArray:=if bH s=true then ⟨(kD (AH s)).toArray⟩ else ⟨#[]⟩
theorem Kl {s:aZ} (hk:k<(aU s.pools).length):sP s (k+1)=Ga (sP s k) ((aU s.pools)[k]):=by
 unfold sP
 rw [aAr hk,List.foldl_append];rfl
theorem Le (s) (i):sG s (i+1)=sG s i++aR (gZ [jU s i]):=by
 unfold sG
 rw [List.range_succ,List.foldl_append];rfl
theorem Aw {s:aZ} (h:bH s=true):1<=s.nodes/\s.pools.length<=4:=by
 unfold bH at h
 simp only [aB0,aBt] at h
 have h2:=h.2.2
 unfold yM at h2
 simp at h2
 omega
theorem OD {s:aZ} (h:bH s=true):∀ i,i<10->0<=jU s i/\jU s i<=1099511627776:=fun i hi=>by
 unfold bH at h
 simp only [aB0] at h
 exact mH.1 (aB1.1 h.2.1 i (aCw.2 hi))
theorem FX {s:aZ} (h:bH s=true):∀ p∈aU s.pools,(0<=p.2.size/\p.2.size<=1099511627776)/\(0<=p.2.grain/\p.2.grain<=1099511627776)/\(0<=p.2.quota/\p.2.quota<=1099511627776):=fun p hp=>by
 unfold bH at h
 simp only [aB0] at h
 have h1:=aB1.1 h.1 p hp
 unfold tT at h1
 simp only [aBt,aA7] at h1
 have h2:=nM (by decide) h1.1.1
 unfold Cq at h2
 simp only [aBt,aA7] at h2
 have h3:=cgq h2.1
 exact ⟨h3 _ (by simp),h3 _ (by simp),h3 _ (by simp)⟩
theorem CJ {s:aZ} (hs:s.Fit):∀ k,(sP s k).length<=22+k*1000055
 | 0=>by
  have:=rY [] [s.nodes,(s.pools.length:Int)]
  simpa [sP,nC] using this
 | k+1=>by
  have ih:=CJ hs k
  by_cases hk:k<(aU s.pools).length
  ·rw [Kl hk]
   have:=LO (sP s k) _ (hs.pools _ (iT hk));omega
  ·unfold sP at ih ⊢
   rw [aAz (by omega)] at ih ⊢
   exact aC7 ih (by rw [aDn];exact Nat.add_le_add_left (aB4 _ _) 22)
theorem Ec {s:aZ} (hs:s.Fit):∀ i,(sG s i).length<=2000000000000+11*i
 | 0=>by
  have h:=CJ hs (aU s.pools).length
  have h2:=hs.poolsN
  unfold sP at h
  rw [aCb,iZ] at h
  show (wC s).length<=_
  unfold wC;omega
 | i+1=>by
  have ih:=Ec hs i
  rw [Le]
  have:=rY (sG s i) [jU s i]
  simp only [aB3,aCk] at this;omega
section
variable {n:Nat} {g:Nat->Value} {w:World} {dd:Option Tmp} {ty:TypeId} {pos:String} {aft:Array Edge} {gd:Option (Nat × Bool)} {x:Operand}
theorem Wm (hx:ev n g x=v) (h:Rd 1 w v m c (bv l)):aL n g ⟨dd,.convert 148 9 x,ty,pos,aft,gd⟩ w (.string ⟨l.toArray⟩):=by
 unfold aL execOp
 simp [hx, uO h, go_sem]
end
theorem JP {l:List Int} (hk:k<=w.heap.size) (hR:Rd 1 w v n c (bv B)) (ho:∀ i,v.ownBlock=some i->none=some i\/k<=i) (hl:Rd 1 w v1 l.length lc (l.flatMap gI)) (h0:l.length≠0) (hN:l.length<=1000000) (hl0:∀ x∈l,0<=x/\x<=9223372036854775807) (hsz:n+11*l.length+22<=70368744177664):
  cT 140 [v,v1] w fun u W=>Pk k none (B++aR (gZ l)) u W:=
 (Rq hk hR hl h0 hN hl0 hsz).mono fun u W _ h=>⟨h.1,fun i hi=>(h.2 i hi).elim (fun e=>(ho i e)) .inr⟩
theorem FF (s) (w) (hs:s.Fit) (ha:s.At w):cT 71 [.agg (aZ.cells s).toArray] w fun v _=>v=.tuple #[.string (dW s),zi (cA 270 (bH s))]:=by
 refine qV (n:=54) func71 rfl ntmps71 (aA1 rfl) ?_
 refine jI (Ae (eO (cO (cs:=aZ.cells s) rfl rfl fun w1 B1 k1 z1 =>?_)))
 have leB1:=aDl w.heap.size
 refine bU (bU (nl (jI (Ae (rg (sq (AT rfl B1.range rfl) (cE Wx (a1 rfl) (vX s _ hs (aZ.At.below ha k1)) ?_)))))))
 rintro _ w2 k2 rfl
 have b3:=aDu k1 k2
 have B1:=B1.below k2
 refine sq (gC rfl rfl) (nx ?_)
 refine cd rfl (fun c4=>?_) (fun c4=>?_)
 ·
  refine rg (bU (bU (nx (aE ?_))))
  have hno:=JL (by decide) c4
  exact sN ⟨_,aAg rfl,_,rfl,b3,by unfold dW;rw [hno];exact pY rfl rfl⟩
 ·
  refine aG ?_
  refine jI (Ae ?_)
  have hok:=nM (by decide) c4
  refine eO (sq (vR rfl) (sq (EI rfl (B1.cell 0 rfl)) (sq (nJ rfl) (sq (CR rfl (B1.cell 1 rfl)) (sq (aY underlying23 rfl) (Cr rfl rfl fun v5 w5 k5 r5 =>?_))))))
  have b6:=aDu b3 k5
  have B1:=B1.below k5
  refine cE Od (a2 rfl rfl) (JP (B:=[]) (l:=[s.nodes,(s.pools.length:Int)]) (k:=0) (aDm _) (aEe 1 _) (fun i hi=>nomatch hi) r5 (by simp) (by simp) (by have:=Aw hok;intro x hx;simp only [aC0,aBy,or_false] at hx;have:=hs.nodes.2;rcases hx with rfl | rfl <;> omega) (by simp)) ?_
  rintro v7 w7 k7 hP
  have b8:=aDu b6 k7
  have B1:=B1.below k7
  obtain ⟨hP,hPo⟩:=hP
  obtain ⟨vb,rfl,hP⟩:=eJ hP
  have hP:Rd 1 w7 (.slice vb (nC s).length (nC s).length) (nC s).length (nC s).length (bv (nC s)):=hP
  have hvlt:∀ i,(Value.slice vb (nC s).length (nC s).length).ownBlock=some i->i<w7.heap.size:=fun i hi=>hP.lt i hi
  refine eA (cs:=[cP]) zeroValue148 rfl fun w9 B9 k9 z9 =>?_
  have nB1_B9:=aC8 B1.lt
  have leB9:=b8.size
  have b10:=aDu b8 k9
  have B1:=B1.below k9
  have hP:=hP.below k9
  refine eP B9 sizeOf148 rfl rfl rfl rfl fun w11 B9n O11 z11 =>?_
  replace B9:=B9n
  have b12:=aS.toBelow O11 b10 b10.size leB9
  have B1:=B1.only O11 nB1_B9
  have hP:=hP.only O11 (fun e=>by have:=hvlt _ e;omega)
  refine nl (jI ?_)
  refine jI (Ae (eO (sq (AT rfl B1.range rfl) ?_)))
  have B1s:=B1
  have B9s:=B9
  have hP4:=hP
  refine cE ZL (a1 rfl) (Gp s _) ?_
  rintro v13 w13 k13 ⟨bl,rfl,hBl,lel⟩
  have b14:=aDu b12 k13
  have B1:=B1.below k13
  have hP:=hP.below k13
  have B9:=B9.below k13
  refine nl ?_
  have hx1:w.heap.size<bl:=aBi B1s.lt lel
  have hx2:w7.heap.size<bl:=aBi B9s.lt lel
  have hx3:=B1.lt
  have hx4:=B9.lt
  have hx5:w.heap.size≠w7.heap.size:=nB1_B9
  have hrow:∀ b,(Value.slice s.pb s.pools.length s.pc).ownBlock=some b->b<w.heap.size:=fun b hb=>Rd.lt ha b hb
  have hwr:=b14.size
  have hle1:=leB1
  have hle2:=leB9
  have hx6:∀ i,(Value.slice vb (nC s).length (nC s).length).ownBlock=some i->i≠w7.heap.size/\i<w13.heap.size:=fun i hi=>by have:=hvlt i hi;have:=hP.lt i hi;omega
  refine wZ ?_
  refine tA (f0:=71) func71 rfl VY (BC bl s _ hBl (aZ.At.below ha b14) (by have:=hs.poolsN;omega)) (fun _=>rfl) (·=w7.heap.size) (fun i hi h=>by omega) (⟨fun h=>by have:=hBl.lt;omega,fun b hb h=>by have:=hrow b hb;omega⟩) (fun S R k W=>∃ vb,Bk w.heap.size (aZ.cells s) 29 W/\Bk w7.heap.size [.slice vb (sP s k).length (sP s k).length] 148 W/\Rd 1 W (.slice vb (sP s k).length (sP s k).length) (sP s k).length (sP s k).length (bv (sP s k))/\(∀ i,(Value.slice vb (sP s k).length (sP s k).length).ownBlock=some i->i≠w7.heap.size/\(i<w13.heap.size\/S<=i))/\Below w.heap.size w W) (fun _ _ _=>False) (fun _ _=>False) ?_ ?_ ?_ ?_ ?_ ?_ ?_
  ·rintro S R k A B ⟨vb,h0,h1,h2,h3,h4⟩ hk;exact ⟨vb,h0.km hk (fun h=>by omega),h1.km hk (fun h=>by omega),h2.km hk (fun b hb h=>by have:=h3 b hb;omega),h3,hk.toBelow h4 h4.size (fun i hi=>by omega)⟩
  ·intro _ _ _ _ h _;exact h.elim
  ·intro A hA;exact ⟨vb,B1.below hA,B9.below hA,hP.below hA,fun i hi=>⟨(hx6 i hi).1,.inl (hx6 i hi).2⟩,aDu b14 hA⟩
  ·
   intro S R k A hk hJ hlA hS hSA hRb
   obtain ⟨vb,hS9,hT9,hP,hvo,hbl⟩:=hJ
   have hvlt:=hP.lt
   refine eO (eA (cs:=zl7) zeroValue143 rfl fun w15 B15 k15 z15 =>?_)
   have nhS9_B15:=aC8 hS9.lt
   have nhT9_B15:=aC8 hT9.lt
   have lkB15_A:=aDl A.heap.size
   have leB15:=hbl.size
   have b16:=aDu hbl k15
   have hS9:=hS9.below k15
   have hT9:=hT9.below k15
   have hP:=hP.below k15
   have m17:KM (fun i=>(·=w7.heap.size) i\/R i) A w15:=aDr k15
   refine bR (vs:=eY.cells ((aU s.pools)[k]).2) B15 sizeOf143 rfl rfl rfl rfl fun w18 B15n O18 z18 =>?_
   replace B15:=B15n
   have b19:=aS.toBelow O18 b16 b16.size leB15
   have hS9:=hS9.only O18 nhS9_B15
   have hT9:=hT9.only O18 nhT9_B15
   have hP:=hP.only O18 (fun e=>by have:=hvo _ e;have:=hvlt _ e;omega)
   have m20:KM (fun i=>(·=w7.heap.size) i\/R i) A w18:=m17.only O18 (.inr lkB15_A)
   refine nl ?_
   refine ⟨m20,?_⟩
   intro w21 O21
   have hS9:=hS9.only O21 (by omega)
   have hT9:=hT9.only O21 (by omega)
   have hP:=hP.only O21 (fun e=>by have:=hvo _ e;omega)
   have B15:=B15.only O21 (Ne.symm (aC8 (aBi hlA lkB15_A)))
   have b22:=aS.toBelow O21 b19 b19.size (by omega)
   have hSb:S<=w21.heap.size:=aC7 hSA (aC7 m20.size O21.size)
   refine aO ?_
   refine eDL 17 (_::_::_::(fun v w=>Rd 1 w v 1 1 [.string (((aU s.pools)[k]).2.name)])::(Pk S none (sP s k++cD [((aU s.pools)[k]).2.name]))::_::_::_::_::_::_::(fun v w=>Rd 1 w v 3 3 [zi (((aU s.pools)[k]).2.size),zi (((aU s.pools)[k]).2.grain),zi (((aU s.pools)[k]).2.quota)])::(Pk S none ((sP s k++cD [((aU s.pools)[k]).2.name])++aR (gZ [((aU s.pools)[k]).2.size,((aU s.pools)[k]).2.grain,((aU s.pools)[k]).2.quota])))::_::_::(fun v w=>Rd 1 w v 1 1 [.bool (((aU s.pools)[k]).2.best)])::(Pk S none (((sP s k++cD [((aU s.pools)[k]).2.name])++aR (gZ [((aU s.pools)[k]).2.size,((aU s.pools)[k]).2.grain,((aU s.pools)[k]).2.quota]))++aR ([((aU s.pools)[k]).2.best].map eH)))::[]) [(16,39)] [4] rfl rfl ⟨aA,aA,aA,zT,Oy,aA,aA,aA,aA,aA,aA,zT,Oy,aA,aA,zT,Oy,trivial⟩ (by kernel_rfl) rfl rfl rfl rfl rfl (fun Sd=>⟨
    iG 4 Sd rfl fun hT q=>uU q ((hT9.below hT).cell 0 rfl),
    jA 6 Sd rfl fun q=>Bh q,
    fY [1] Sd rfl fun hT h=>nY h.1 ((B15.below hT).cell 0 rfl),
    ow [(2,25)] [] Sd rfl rfl rfl (by rintro g1 w1 hT ⟨h2,-⟩ -;exact QT h2),
    oW [(0,23),(3,26)] [] Sd rfl fun _ _ hT h _=>gV (a2 h.1 rfl) Wv (Qy (L:=[((aU s.pools)[k]).2.name]) (k:=S) (o:=none) (aC7 hSb hT.size) (hP.below hT) h.2.1 (by have:=fB (sP s k) ((aU s.pools)[k]).2.name;have:=CJ hs k;have:=(hs.pools _ (iT hk)).name;have:=hs.poolsN;have:=hk;rw [iZ] at this;rw [aBh] at *;omega)),
    jA 6 Sd rfl fun q=>JK q,
    fY [5] Sd rfl fun hT h=>cZ h.1 ((B15.below hT).cell 1 rfl),
    jA 6 Sd rfl fun q=>KZ q,
    fY [7] Sd rfl fun hT h=>cZ h.1 ((B15.below hT).cell 2 rfl),
    jA 6 Sd rfl fun q=>Kj q,
    fY [9] Sd rfl fun hT h=>cZ h.1 ((B15.below hT).cell 3 rfl),
    ow [(6,29),(8,31),(10,33)] [] Sd rfl rfl rfl (by rintro g1 w1 hT ⟨h6,h8,h10,-⟩ -;exact xQ h6 h8 h10),
    oW [(4,27),(11,34)] [] Sd rfl fun _ _ hT h _=>gV (a2 rfl rfl) Od (JP (B:=(sP s k++cD [((aU s.pools)[k]).2.name])) (l:=[((aU s.pools)[k]).2.size,((aU s.pools)[k]).2.grain,((aU s.pools)[k]).2.quota]) (k:=S) (aC7 hSb hT.size) ((h.1).1.below (aDt _ _)) (h.1).2 h.2.1 (by simp) (by simp) (by have:=FX hok _ (aBz hk);intro x hx;simp only [aC0,aBy,or_false] at hx;rcases hx with rfl | rfl | rfl <;> omega) (by have:=fB (sP s k) ((aU s.pools)[k]).2.name;have:=CJ hs k;have:=(hs.pools _ (iT hk)).name;have:=hs.poolsN;have:=hk;rw [iZ] at this;simp only [aB3,aCk];omega)),
    jA 6 Sd rfl fun q=>Kh q,
    fY [13] Sd rfl fun hT h=>DB h.1 ((B15.below hT).cell 4 rfl),
    ow [(14,37)] [] Sd rfl rfl rfl (by rintro g1 w1 hT ⟨h14,-⟩ -;exact LS h14),
    oW [(12,35),(15,38)] [] Sd rfl fun _ _ hT h _=>gV (a2 rfl rfl) VO (OP (L:=[((aU s.pools)[k]).2.best]) (k:=S) (o:=none) (aC7 hSb hT.size) (h.1).1 h.2.1 (by have:=rY (sP s k++cD [((aU s.pools)[k]).2.name]) [((aU s.pools)[k]).2.size,((aU s.pools)[k]).2.grain,((aU s.pools)[k]).2.quota];have:=fB (sP s k) ((aU s.pools)[k]).2.name;have:=CJ hs k;have:=(hs.pools _ (iT hk)).name;have:=hs.poolsN;have:=hk;rw [iZ] at this;simp only [aB3,aCk] at *;omega)),
    trivial⟩) ?_
   rintro g23 w23 k23 ⟨s39,-⟩ ⟨o4,-⟩ Kq hK
   obtain ⟨bq39,e39,r39⟩:=eJ (show Rd 1 w23 (g23 39) ((((sP s k++cD [((aU s.pools)[k]).2.name])++aR (gZ [((aU s.pools)[k]).2.size,((aU s.pools)[k]).2.grain,((aU s.pools)[k]).2.quota]))++aR ([((aU s.pools)[k]).2.best].map eH)).length) ((((sP s k++cD [((aU s.pools)[k]).2.name])++aR (gZ [((aU s.pools)[k]).2.size,((aU s.pools)[k]).2.grain,((aU s.pools)[k]).2.quota]))++aR ([((aU s.pools)[k]).2.best].map eH)).length) (bv (((sP s k++cD [((aU s.pools)[k]).2.name])++aR (gZ [((aU s.pools)[k]).2.size,((aU s.pools)[k]).2.grain,((aU s.pools)[k]).2.quota]))++aR ([((aU s.pools)[k]).2.best].map eH))) from s39.1)
   have s4:g23 4=pt w7.heap.size (0):=o4.trans rfl
   have b24:=aDu b22 k23
   have hS9:=hS9.below k23
   have hT9:=hT9.below k23
   have hP:=hP.below k23
   have m25:KM (fun i=>(·=w7.heap.size) i\/R i) w21 w23:=aDr k23
   have y39:∀ i,(Value.slice bq39 _ _).ownBlock=some i->S<=i:=fun i hi=>(s39.2 i (by rw [e39];exact hi)).elim (fun e=>nomatch e) id
   refine Dr hT9 sizeOf148 s4 e39 rfl rfl fun w26 hT9n O26 z26 =>?_
   replace hT9:=hT9n
   have b27:=aS.toBelow O26 b24 b24.size hle2
   have hS9:=hS9.only O26 hx5
   have hP:=hP.only O26 (fun e=>by have:=hvo _ e;have:=hvlt _ e;omega)
   have r39:=r39.only O26 (fun e=>by have:=y39 _ e;omega)
   have m28:KM (fun i=>(·=w7.heap.size) i\/R i) w21 w26:=m25.only O26 (.inl (.inl rfl))
   exact hK _ _ ⟨⟨R,⟨bq39,hS9,by rw [Kl hk];exact hT9,by rw [Kl hk];exact r39,by rw [Kl hk];exact fun i hi=>by have:=y39 i hi;exact ⟨by omega,.inr this⟩,b27⟩,fun _ h=>.inl h⟩,m28⟩
  ·intro _ _ h;exact h.elim
  ·
   intro S R w29 hJ hS hSB hD
   obtain ⟨vb,hS9,hT9,hP,hvo,hbl⟩:=hJ
   have hF:sP s (aU s.pools).length=wC s:=by unfold sP wC;rw [aCb]
   rw [hF] at hT9 hP hvo
   have hvo:∀ i,(Value.slice vb (wC s).length (wC s).length).ownBlock=some i->i≠w7.heap.size:=fun i hi=>(hvo i hi).1
   refine Ae (aF (rg (cE Qf (a1 rfl) (sI w.heap.size s _ hS9) ?_)))
   rintro _ w30 k30 rfl
   have b31:=aDu hbl k30
   have hS9:=hS9.below k30
   have hT9:=hT9.below k30
   have hP:=hP.below k30
   have hD32:=(k30.block _ (Array.getElem?_eq_some_iff.1 hD).1).trans hD
   refine rU (nx ?_)
   refine aO (lp (fun m g W=>∃ i:Nat,∃ vb:Option Addr,m=10 - i/\g 2=.string (⟨#[]⟩)/\g 3=zi (0)/\g 4=pt w7.heap.size (0)/\g 40=.agg (FK w.heap.size).toArray/\g 41=zi ((i:Nat):Int)/\Bk w.heap.size (aZ.cells s) 29 W/\Bk w7.heap.size ([.slice vb (sG s i).length (sG s i).length]) 148 W/\W.heap[w13.heap.size]? = some (.deferred (some []))/\Below w.heap.size w W/\(i<=10/\Rd 1 W (.slice vb (sG s i).length (sG s i).length) (sG s i).length (sG s i).length (bv (sG s i))/\∀ j,(Value.slice vb (sG s i).length (sG s i).length).ownBlock=some j->j≠w7.heap.size)) _ ⟨0,vb,rfl,rfl,rfl,rfl,rfl,rfl,hS9,hT9,hD32,b31,⟨by omega,hP,hvo⟩⟩ ?_)
   rintro m g33 w33 ⟨i,vb,hme,s2,s3,s4,s40,s41,hS9,hT9,hD33,b33,⟨hi10,hP,hvo⟩⟩
   refine rg (sq (eT s41 rfl) (nx (aF ?_)))
   refine cd rfl (fun c34=>?_) (fun c34=>?_)
   ·
    refine aG (aF (aO (rg ?_)))
    have hi:i<10:=by have:=aBp c34;omega
    refine sq (Ew s40 s41 hi) (aW (pt w.heap.size (2+i)) rfl (nx ?_))
    refine eDL 6 (_::_::_::_::(fun v w=>Rd 1 w v 1 1 [zi (jU s i)])::(Pk (w7.heap.size+1) (Value.slice vb (sG s i).length (sG s i).length).ownBlock (sG s i++aR (gZ [jU s i])))::[]) [(5,49)] [2,3,4,40,41] rfl rfl ⟨aA,aA,aA,aA,zT,Oy,trivial⟩ (by kernel_rfl) rfl rfl rfl rfl rfl (fun Sd=>⟨
     iG 4 Sd rfl fun hT q=>uU (q.trans s4) ((hT9.below hT).cell 0 rfl),
     bF Sd rfl rfl,
     aP [1] Sd rfl fun h=>dF h.1,
     fY [2] Sd rfl fun hT h=>cZ h.1 (BS (hS9.below hT) hi),
     ow [(3,47)] [] Sd rfl rfl rfl (by rintro g1 w1 hT ⟨h3,-⟩ -;exact yI h3),
     oW [(0,44),(4,48)] [] Sd rfl fun _ _ hT h _=>gV (a2 h.1 rfl) Od (Rq (B:=sG s i) (l:=[jU s i]) (k:=w7.heap.size+1) (aC7 (Nat.succ_le_of_lt hT9.lt) hT.size) (hP.below hT) h.2.1 (by simp) (by simp) (by have:=OD hok i hi;intro x hx;simp only [aBj] at hx;subst hx;omega) (by have:=Ec hs i;simp only [aB3,aCk];omega)),
     trivial⟩) ?_
    rintro g35 w35 k35 ⟨s49,-⟩ ⟨o2,o3,o4,o40,o41,-⟩ Kq hK
    obtain ⟨bq49,e49,r49⟩:=eJ (show Rd 1 w35 (g35 49) ((sG s i++aR (gZ [jU s i])).length) ((sG s i++aR (gZ [jU s i])).length) (bv (sG s i++aR (gZ [jU s i]))) from s49.1)
    have s2:=o2.trans s2
    have s3:=o3.trans s3
    have s4:=o4.trans s4
    have s40:=o40.trans s40
    have s41:=o41.trans s41
    have b36:=aDu b33 k35
    have hS9:=hS9.below k35
    have hT9:=hT9.below k35
    have hP:=hP.below k35
    have hD37:=(k35.block _ (Array.getElem?_eq_some_iff.1 hD33).1).trans hD33
    have y49:∀ i,(Value.slice bq49 _ _).ownBlock=some i->i≠w7.heap.size:=fun i hi=>by rcases s49.2 i (by rw [e49];exact hi) with e | e;exact hvo i e;omega
    refine Dr hT9 sizeOf148 s4 e49 rfl rfl fun w38 hT9n O38 z38 =>?_
    replace hT9:=hT9n
    have b39:=aS.toBelow O38 b36 b36.size hle2
    have hS9:=hS9.only O38 hx5
    have hP:=hP.only O38 (fun e=>by have:=hvo _ e;omega)
    have r49:=r49.only O38 (fun e=>by have:=y49 _ e;omega)
    have hD40:=(O38.block _ (Array.getElem?_eq_some_iff.1 hD37).1 (fun e=>absurd (aCp e) (by omega))).trans hD37
    refine hK _ _ (pI (eO (sq (iK s41 rfl (⟨by omega,by omega⟩)) (aN (zi ((((i:Nat):Int):Int)+(1:Int))) rfl (nl ?_)))))
    rw [<- Le] at hT9
    exact fC (by omega) ⟨i+1,bq49,rfl,s2,s3,s4,s40,(aD7 (Value.int .i64) (by omega)),hS9,hT9,hD40,b39,⟨by omega,by rw [Le];exact r49,by rw [Le];exact y49⟩⟩
   ·
    refine cI ?_
    repeat refine bN ?_
    refine dP (rg (sq (uU s4 (hT9.cell 0 rfl)) ?_))
    have hi10':i=10:=by have:=aBe c34;omega
    subst hi10'
    refine sq (Wm rfl hP) (cE ZD (a1 rfl) (oM (xX ⟨(AH s).toArray⟩ _ (by have:=Ec hs 10;show (AH s).toArray.size<=_;rw [aBr];unfold AH;omega))) ?_)
    rintro _ w41 k41 rfl
    have b42:=aDu b33 k41
    have hD43:=(k41.block _ (Array.getElem?_eq_some_iff.1 hD33).1).trans hD33
    exact aW (.string (⟨(kD (AH s)).toArray⟩)) rfl (bU (nx (aE (wK hD43 fun w9 O9=>⟨_,aAg rfl,_,rfl,aS.toBelow O9 b42 b42.size (by have:=b42.size;omega),by unfold dW;rw [aEc hok,uH hok];exact pY rfl rfl⟩))))
  ·intro _ _ _ h;exact h.elim
theorem YQ {n:Nat} (h:n<=255):IntKind.u64.wrap (n:Int)=(n:Int):=by rw [aCa];omega
theorem Th {L:List Nat} (hk:k<=w.heap.size) (hv:Rd 1 w v n c (bv B)) (hl:Rd 1 w v1 m mc (uv L)) (hL:∀ x∈L,x<18446744073709551616) (hsz:n+11*m<=70368744177664):cT 77 [v,v1] w fun u W=>Pk k o (B++aR L) u W:=by
 obtain ⟨b,rfl,hv⟩:=eJ hv
 obtain ⟨b1,rfl,hl⟩:=eJ hl
 exact Jp hk (mL hv hl hL hsz)
def OF (L:List UInt8) (K:Nat->ByteArray) (x:dH):List UInt8:=(((((L++aR ([x.id].map cB))++cD [cX K x.slip.c])++aR [x.phase])++aR ([x.good,x.hold].map eH))++aR ([x.inc,x.at_,x.ran].map cB))
theorem XT (wb bp) (wp) (hwb:wb=wp.heap.size) (L) (K:Nat->ByteArray) (x:dH) (w) (hb:Below wp.heap.size wp w) (hP:Bk bp [pt wb 0] 147 w) (hbp:bp≠wb) (hS:Wr wb L w) (hid:jO x.id) (hx:x.Fit K) (hw:rQ K x.slip.c) (ha:x.slip.At wp) (hE:rI K wp) (hsz:L.length+50000000<=70368744177664):uL wb 75 [.agg (dH.cells x).toArray,pt bp 0] L (OF L K x) w:=by
 refine aJ (n:=48) func75 rfl ntmps75 (aA1 rfl) ?_
 have hss:=uN hx.slip hw
 refine rg (cO (cs:=dH.cells x) rfl rfl fun w1 B1 k1 z1 =>?_)
 have nhP_B1:=aC8 hP.lt
 have lkB1_w:=aDl w.heap.size
 have hS_B1:=hS
 have leB1_wp:=hb.size
 have leB1_w:=aDl w.heap.size
 have nWB1:w.heap.size≠wb:=aDk hS.lt
 have hP:=hP.below k1
 have hS:=hS.below k1
 have b2:=aDu hb k1
 have m3:KM (·=wb) w w1:=aDr k1
 refine nx (rg (sq (Ed rfl) (sq (IK rfl (B1.part (o:=1) (sub:=[.string x.slip.c.user,zi x.slip.c.nodes,zi x.slip.c.wall,zi x.slip.c.qos,.slice x.slip.ab x.slip.c.after.length x.slip.ac,zi x.slip.c.cap,zi x.slip.c.inn,zi x.slip.c.out,.string x.slip.c.pool,.slice x.slip.mb x.slip.c.make.length x.slip.mc,.slice x.slip.db x.slip.c.drop.length x.slip.dc,.slice x.slip.ub x.slip.c.use.length x.slip.uc]) rfl) rfl) (cE en76 (a1 rfl) (MG K x.slip _ (hE.below b2) (bS.At.below ha b2) hx.slip hw) ?_))))
 rintro v4 w4 k4 rfl
 have hP:=hP.below k4
 have B1:=B1.below k4
 have hS:=hS.below k4
 have m7:=m3.below k4
 refine aN (.tuple #[.string (cX K x.slip.c),zi (cA 150 (bL K x.slip.c))]) rfl (sq (dT rfl rfl) (sq (dT rfl rfl) (aW (.string (cX K x.slip.c)) rfl (aW (zi (cA 150 (bL K x.slip.c))) rfl (nx (rg (sq (eI rfl (hP.cell 0 rfl)) (sq (vN rfl) (sq (cZ rfl (B1.cell 0 rfl)) (mM rfl fun v8 w8 k8 r8 =>?_))))))))))
 have hP:=hP.below k8
 have B1:=B1.below k8
 have hS:=hS.below k8
 have m11:=m7.below k8
 refine rN (fst:=[]) (caps:=[]) zU rfl (dZ (a2 rfl rfl)) (gQ wb _ _ _ L [x.id] _ hS r8 (by intro n hn;simp only [aC0,aBy,or_false] at hn;rw [hn];exact hid) (by omega)) fun v12 w12 k12 hS =>?_
 have hP:=hP.km k12 hbp
 have B1:=B1.km k12 nWB1
 have m13:KM (·=wb) w w12:=m11 |>.trans k12
 have hL15:=cR L [x.id] 1 rfl
 refine nx (rg (sq (eI rfl (hP.cell 0 rfl)) (aN (.string (cX K x.slip.c)) rfl (xS rfl fun v16 w16 k16 r16 =>?_))))
 have hP:=hP.below k16
 have B1:=B1.below k16
 have hS:=hS.below k16
 have m18:=m13.below k16
 refine rN (fst:=[]) (caps:=[]) RH rfl (dZ (a2 rfl rfl)) (pS wb _ _ _ (L++aR ([x.id].map cB)) [cX K x.slip.c] _ hS r16 (by have:=kJ (cX K x.slip.c);omega)) fun v19 w19 k19 hS =>?_
 have hP:=hP.km k19 hbp
 have B1:=B1.km k19 nWB1
 have m20:KM (·=wb) w w19:=m18 |>.trans k19
 have hL22:=fB (L++aR ([x.id].map cB)) (cX K x.slip.c)
 refine nx ?_
 obtain ⟨vb,vc,hWb,hRb⟩:=hS
 refine YF 12 (_::_::_::_::_::_::_::_::(fun v w=>Rd 1 w v 1 1 [.int .u64 (x.phase:Int)])::(Pk (wb+1) none (((L++aR ([x.id].map cB))++cD [cX K x.slip.c])++aR [x.phase]))::_::_::[]) [(9,29),(11,31)] [1,2] rfl rfl ⟨aA,aA,aA,aA,aA,aA,aA,aA,zT,Oy,aA,aA,trivial⟩ (by kernel_rfl) rfl rfl rfl rfl rfl (fun Sd=>⟨
  iG 1 Sd rfl fun hT q=>eI q ((hP.below hT).cell 0 rfl),
  iG 1 Sd rfl fun hT q=>eI q ((hP.below hT).cell 0 rfl),
  aP [1] Sd rfl fun h=>dF h.1,
  aP [2] Sd rfl fun h=>jB h.1,
  fY [3] Sd rfl fun hT h=>uU h.1 ((hWb.below hT).cell 0 rfl),
  jA 2 Sd rfl fun q=>tC q,
  fY [5] Sd rfl fun hT h=>Nr h.1 ((B1.below hT).cell 13 rfl),
  oW [(6,26)] [] Sd rfl fun _ _ _ h _=>dv (pO underlying5 underlying104 h.1) (aD7 (Value.int .u64) (YQ hx.phase)),
  ow [(7,27)] [] Sd rfl rfl rfl (by rintro g1 w1 hT ⟨h7,-⟩ -;exact Nh h7),
  oW [(4,24),(8,28)] [] Sd rfl fun _ _ hT h _=>gV (a2 h.1 rfl) TT (Th (L:=[x.phase]) (k:=wb+1) (o:=none) (aC7 (Nat.succ_le_of_lt hWb.lt) hT.size) (hRb.below hT) h.2.1 (fun n hn=>by rw [aBj.1 hn];have:=hx.phase;omega) (by omega)),
  aP [0] Sd rfl fun h=>dF h.1,
  aP [10] Sd rfl fun h=>jB h.1,
  trivial⟩) ?_
 rintro g23 w23 k23 ⟨s29,s31,-⟩ ⟨o1,o2,-⟩ Kq hK
 obtain ⟨bq29,e29,r29⟩:=eJ (show Rd 1 w23 (g23 29) ((((L++aR ([x.id].map cB))++cD [cX K x.slip.c])++aR [x.phase]).length) ((((L++aR ([x.id].map cB))++cD [cX K x.slip.c])++aR [x.phase]).length) (bv (((L++aR ([x.id].map cB))++cD [cX K x.slip.c])++aR [x.phase])) from s29.1)
 have s1:g23 1=pt bp (0):=o1.trans rfl
 have s2:g23 2=pt w.heap.size (0):=o2.trans rfl
 have hP:=hP.below k23
 have B1:=B1.below k23
 have hWb:=hWb.below k23
 have m25:=m20.below k23
 have y29:∀ i,(Value.slice bq29 _ _).ownBlock=some i->wb+1<=i:=fun i hi=>(s29.2 i (by rw [e29];exact hi)).elim (fun e=>nomatch e) id
 refine Dr hWb sizeOf148 s31 e29 rfl rfl fun w26 hWbn O26 z26 =>?_
 replace hWb:=hWbn
 have hP:=hP.only O26 hbp
 have B1:=B1.only O26 nWB1
 have r29:=r29.only O26 (fun e=>by have:=y29 _ e;omega)
 have m27:=m25.only O26 (.inl rfl)
 refine hK _ _ ?_
 have hS:Wr wb (((L++aR ([x.id].map cB))++cD [cX K x.slip.c])++aR [x.phase]) w26:=⟨_,_,hWb,r29⟩
 have hL29:=qD ((L++aR ([x.id].map cB))++cD [cX K x.slip.c]) x.phase
 refine rg (sq (eI s1 (hP.cell 0 rfl)) (sq (Es s2) (sq (DB rfl (B1.cell 14 rfl)) (sq (Ip s2) (sq (DB rfl (B1.cell 15 rfl)) (zR rfl rfl fun v30 w30 k30 r30 =>?_))))))
 have hP:=hP.below k30
 have B1:=B1.below k30
 have hS:=hS.below k30
 have m32:=m27.below k30
 refine rN (fst:=[]) (caps:=[]) Ly rfl (dZ (a2 rfl rfl)) (nX wb _ _ _ (((L++aR ([x.id].map cB))++cD [cX K x.slip.c])++aR [x.phase]) [x.good,x.hold] _ hS r30 (by omega)) fun v33 w33 k33 hS =>?_
 have hP:=hP.km k33 hbp
 have B1:=B1.km k33 nWB1
 have m34:KM (·=wb) w w33:=m32 |>.trans k33
 have hL36:=fE (((L++aR ([x.id].map cB))++cD [cX K x.slip.c])++aR [x.phase]) [x.good,x.hold] 2 rfl
 refine nx (eO (sq (eI s1 (hP.cell 0 rfl)) (sq (EA s2) (sq (cZ rfl (B1.cell 16 rfl)) (sq (Fe s2) (sq (cZ rfl (B1.cell 17 rfl)) (sq (Ff s2) (sq (cZ rfl (B1.cell 18 rfl)) (Gf rfl rfl rfl fun v37 w37 k37 r37 =>?_)))))))))
 have hS:=hS.below k37
 have m39:=m34.below k37
 refine rN (fst:=[]) (caps:=[]) zU rfl (dZ (a2 rfl rfl)) (gQ wb _ _ _ ((((L++aR ([x.id].map cB))++cD [cX K x.slip.c])++aR [x.phase])++aR ([x.good,x.hold].map eH)) [x.inc,x.at_,x.ran] _ hS r37 (by intro n hn;simp only [aC0,aBy,or_false] at hn;rcases hn with rfl | rfl | rfl;exact hx.inc;exact hx.at_;exact hx.ran) (by omega)) fun v40 w40 k40 hS =>?_
 have m41:KM (·=wb) w w40:=m39 |>.trans k40
 have hL43:=cR ((((L++aR ([x.id].map cB))++cD [cX K x.slip.c])++aR [x.phase])++aR ([x.good,x.hold].map eH)) [x.inc,x.at_,x.ran] 3 rfl
 exact nl (fV rfl ⟨_,rfl,m41,hS⟩)
theorem DV (L) (x):(Hg L x).length<=L.length+10000000:=by
 have h0:=cR L [x.job] 1 rfl
 have h1:=fE (L++aR ([x.job].map cB)) [x.out] 1 rfl
 have h2:=cR ((L++aR ([x.job].map cB))++aR ([x.out].map eH)) [x.size,x.done,x.tries,x.wait] 4 rfl
 unfold Hg;omega
theorem Dt (L) (x):(FB L x).length<=L.length+10000000:=by
 have h0:=fE L [x.up,x.opn] 2 rfl
 have h1:=cR (L++aR ([x.up,x.opn].map eH)) [x.job] 1 rfl
 unfold FB;omega
theorem BZ (L) (x) (hx:x.Fit):(CL L x).length<=L.length+10000000:=by
 have h0:=fB L x.user
 have h1:=cR (L++cD [x.user]) [x.use] 1 rfl
 have:=hx.user
 unfold CL;omega
theorem FQ (L) (x:lQ):(Qc L x).length<=L.length+10000000:=by
 have h0:=cR L [x.job,x.pool,x.s1,x.s2,x.s3,x.s4,x.s5,x.s6,x.t1,x.t2,x.t3] 11 rfl
 unfold Qc;omega
theorem Hw (L) (x) (hx:x.Fit):(NX L x).length<=L.length+50000000:=by
 have h0:=cR L [x.job] 1 rfl
 have h1:=AR (L++aR ([x.job].map cB)) x.name x.user x.pool
 have h2:=fE ((L++aR ([x.job].map cB))++cD [x.name,x.user,x.pool]) [x.opn] 1 rfl
 have h3:=fJ (m:=22) (((L++aR ([x.job].map cB))++cD [x.name,x.user,x.pool])++aR ([x.opn].map eH)) x.exts (fun E y _=>pR E y)
 have h4:=fJ (m:=11) (oR AU (((L++aR ([x.job].map cB))++cD [x.name,x.user,x.pool])++aR ([x.opn].map eH)) x.exts) x.refs (fun E y _=>sA E y)
 have:=hx.name;have:=hx.user;have:=hx.pool;have:=hx.extsN;have:=hx.refsN
 unfold NX;omega
theorem Di (L) (x) (hx:x.Fit):(Hs L x).length<=L.length+1100000000000:=by
 have h0:=cR L [x.size,x.grain,x.quota] 3 rfl
 have h1:=fE (L++aR ([x.size,x.grain,x.quota].map cB)) [x.drain,x.best] 2 rfl
 have h2:=fJ (m:=22) ((L++aR ([x.size,x.grain,x.quota].map cB))++aR ([x.drain,x.best].map eH)) x.free (fun E y _=>pR E y)
 have h3:=fJ (m:=1000022) (oR AU ((L++aR ([x.size,x.grain,x.quota].map cB))++aR ([x.drain,x.best].map eH)) x.free) x.uses (fun E y hy=>CC E y (hx.uses y hy))
 have:=hx.freeN;have:=hx.usesN
 unfold Hs;omega
theorem Gc (K:Nat->ByteArray) (L) (x:dH) (hx:x.Fit K) (hw:rQ K x.slip.c):(OF L K x).length<=L.length+50000000:=by
 have h0:=cR L [x.id] 1 rfl
 have h1:=fB (L++aR ([x.id].map cB)) (cX K x.slip.c)
 have h2:=qD ((L++aR ([x.id].map cB))++cD [cX K x.slip.c]) x.phase
 have h3:=fE (((L++aR ([x.id].map cB))++cD [cX K x.slip.c])++aR [x.phase]) [x.good,x.hold] 2 rfl
 have h4:=cR ((((L++aR ([x.id].map cB))++cD [cX K x.slip.c])++aR [x.phase])++aR ([x.good,x.hold].map eH)) [x.inc,x.at_,x.ran] 3 rfl
 have:=uN hx.slip hw
 unfold OF;omega
def Vj (y:aX):List UInt8:=[]++cD [dW y.site]
def Vq (y:aX):List UInt8:=Vj y++aR ([y.now,y.next].map cB)
def Vi (K:Nat->ByteArray) (y:aX):List UInt8:=oR (fun E x=>OF E K x) (Vq y) y.jobs
def RX (K:Nat->ByteArray) (y:aX):List UInt8:=oR NX (Vi K y) y.bufs
def SW (K:Nat->ByteArray) (y:aX):List UInt8:=oR Hs (RX K y) y.pools
def Vh (K:Nat->ByteArray) (y:aX):List UInt8:=oR Hg (SW K y) y.moves
def SA (K:Nat->ByteArray) (y:aX):List UInt8:=oR FB (Vh K y) y.nodes
def TJ (K:Nat->ByteArray) (y:aX):List UInt8:=oR CL (SA K y) y.shares
def Sn (K:Nat->ByteArray) (y:aX):List UInt8:=oR Qc (TJ K y) y.rows
def SL (K:Nat->ByteArray) (y:aX):List UInt8:=oR MY (Sn K y) y.faults
def Nq (K:Nat->ByteArray) (y:aX):List UInt8:=SL K y++aR ([y.dirty].map eH)
def uE (K:Nat->ByteArray) (y:aX):ByteArray:=if bG K y=true then ⟨(kD (Nq K y)).toArray⟩ else ⟨#[]⟩
def mS (K:Nat->ByteArray) (y:aX):Prop:=∀ j∈y.jobs,rQ K j.slip.c
theorem BU {K:Nat->ByteArray} {y:aX} (h:bG K y=true):bH y.site=true/\dS K y.next y.jobs=true/\y.pools.length=y.site.pools.length:=by
 unfold bG rL at h
 simp only [aC1,List.all_nil,Bool.and_true,id,aB0] at h
 obtain ⟨h1,h2,h3,h4,h5⟩:=h
 unfold SN at h1;unfold PO at h2;unfold Up at h4
 simp only [aB0,aBq] at h1 h2 h4
 exact ⟨nM (n:=270) (by decide) (by simpa using h1.1),nM (n:=230) (by decide) (by simpa using h2.1.1),by omega⟩
structure ZT (y:aX):Prop where
 jobs:y.jobs.length<=128
 bufs:y.bufs.length<=200
 pools:y.pools.length<=4
 moves:y.moves.length<=200
 nodes:y.nodes.length<=64
 shares:y.shares.length<=100
 rows:y.rows.length<=64
 faults:y.faults.length<=200
theorem jM {K:Nat->ByteArray} {y:aX} (h:bG K y=true):ZT y:=by
 have hp:=BU h
 unfold bG rL at h
 simp only [aC1,List.all_nil,Bool.and_true,id,aB0] at h
 obtain ⟨h1,h2,h3,h4,h5⟩:=h
 unfold PO at h2;unfold Sg at h3;unfold Us at h5
 simp only [aB0,aBq] at h2 h3 h5
 have hb:=nM (n:=170) (b:=gY y.bufs) (by decide) (by simpa using h2.1.2)
 have hm:=nM (n:=190) (b:=gP y.moves) (by decide) (by simpa using h2.2)
 have hn:=nM (n:=2) (b:=gF y.nodes) (by decide) (by simpa using h3.1.1)
 have hs:=nM (n:=240) (b:=fR y.shares) (by decide) (by simpa using h3.2)
 have hj:=hp.2.1
 have hsp:=(Aw hp.1).2
 have hpl:=hp.2.2
 unfold gY at hb;unfold gP at hm;unfold gF at hn;unfold fR at hs;unfold dS wV at hj
 simp only [aB0,aBq,aBt,aA7,decide_eq_false_iff_not] at hb hm hn hs hj
 have hf:=aA4 pF y.jobs
 exact ⟨by omega,hb.2,by omega,hm.2,by omega,hs.2,by omega,by omega⟩
theorem XJ {K:Nat->ByteArray} {next:Int} {l:List dH} (h:dS K next l=true):∀ j∈l,jO j.id:=by
 intro j hj
 unfold dS at h
 simp only [aB0] at h
 obtain ⟨i,hi,rfl⟩:=aBa.1 hj
 have h1:=aB1.1 h.1 i (aCw.2 hi)
 rw [iE hi] at h1
 unfold wG at h1
 simp only [aBt,aA7,aBn] at h1
 have h2:=h1.1.1
 unfold Fm at h2
 simp only [aB0,aBq] at h2
 have h3:=h2.1.1.1.1.1.1.1.1.1.1
 have h4:=h2.1.1.1.1.1.1.1.1.1.2
 exact ⟨by omega,by omega⟩
theorem xU {s:aZ} (hs:s.Fit):(dW s).size<=2000000001000:=by
 unfold dW
 split
 ·show (kD (AH s)).toArray.size<=_
  rw [aBr,Ma]
  have:=Ec hs 10
  unfold AH;omega
 ·decide
theorem IN {K:Nat->ByteArray} {y:aX} (hy:y.Fit K) (hw:mS K y) (hc:bG K y=true):(Vj y).length<=2000000001011:=by
 have h1:(Vj y).length<=_:=fB [] (dW y.site)
 have h2:=xU hy.site
 simp only [aCk] at h1
 omega
theorem JI {K:Nat->ByteArray} {y:aX} (hy:y.Fit K) (hw:mS K y) (hc:bG K y=true):(Vq y).length<=2000000001033:=by
 have h1:(Vq y).length<=_:=cR (Vj y) [y.now,y.next] 2 rfl
 have h0:=IN hy hw hc
 omega
theorem IT {K:Nat->ByteArray} {y:aX} (hy:y.Fit K) (hw:mS K y) (hc:bG K y=true):(Vi K y).length<=2006400001044:=by
 have h1:(Vi K y).length<=_:=fJ (m:=50000000) (Vq y) y.jobs (fun E x hx'=>Gc K E x (hy.jobs x hx') (hw x hx'))
 have h0:=JI hy hw hc
 have h2:=(jM hc).jobs
 omega
theorem JE {K:Nat->ByteArray} {y:aX} (hy:y.Fit K) (hw:mS K y) (hc:bG K y=true):(RX K y).length<=2016400001055:=by
 have h1:(RX K y).length<=_:=fJ (m:=50000000) (Vi K y) y.bufs (fun E x hx'=>Hw E x (hy.bufs x hx'))
 have h0:=IT hy hw hc
 have h2:=(jM hc).bufs
 omega
theorem Jf {K:Nat->ByteArray} {y:aX} (hy:y.Fit K) (hw:mS K y) (hc:bG K y=true):(SW K y).length<=6416400001066:=by
 have h1:(SW K y).length<=_:=fJ (m:=1100000000000) (RX K y) y.pools (fun E x hx'=>Di E x (hy.pools x hx'))
 have h0:=JE hy hw hc
 have h2:=(jM hc).pools
 omega
theorem IG {K:Nat->ByteArray} {y:aX} (hy:y.Fit K) (hw:mS K y) (hc:bG K y=true):(Vh K y).length<=6418400001077:=by
 have h1:(Vh K y).length<=_:=fJ (m:=10000000) (SW K y) y.moves (fun E x _=>DV E x)
 have h0:=Jf hy hw hc
 have h2:=(jM hc).moves
 omega
theorem Im {K:Nat->ByteArray} {y:aX} (hy:y.Fit K) (hw:mS K y) (hc:bG K y=true):(SA K y).length<=6419040001088:=by
 have h1:(SA K y).length<=_:=fJ (m:=10000000) (Vh K y) y.nodes (fun E x _=>Dt E x)
 have h0:=IG hy hw hc
 have h2:=(jM hc).nodes
 omega
theorem JC {K:Nat->ByteArray} {y:aX} (hy:y.Fit K) (hw:mS K y) (hc:bG K y=true):(TJ K y).length<=6420040001099:=by
 have h1:(TJ K y).length<=_:=fJ (m:=10000000) (SA K y) y.shares (fun E x hx'=>BZ E x (hy.shares x hx'))
 have h0:=Im hy hw hc
 have h2:=(jM hc).shares
 omega
theorem Iu {K:Nat->ByteArray} {y:aX} (hy:y.Fit K) (hw:mS K y) (hc:bG K y=true):(Sn K y).length<=6420680001110:=by
 have h1:(Sn K y).length<=_:=fJ (m:=10000000) (TJ K y) y.rows (fun E x _=>FQ E x)
 have h0:=JC hy hw hc
 have h2:=(jM hc).rows
 omega
theorem Iw {K:Nat->ByteArray} {y:aX} (hy:y.Fit K) (hw:mS K y) (hc:bG K y=true):(SL K y).length<=6420680201121:=by
 have h1:(SL K y).length<=_:=fJ (m:=1000) (Sn K y) y.faults (fun E x _=>aC7 (sA E x) (by omega))
 have h0:=Iu hy hw hc
 have h2:=(jM hc).faults
 omega
theorem Qr {K:Nat->ByteArray} {y:aX} (hy:y.Fit K) (hw:mS K y) (hc:bG K y=true):(Nq K y).length<=6420680201132:=by
 have h1:(Nq K y).length<=_:=fE (SL K y) [y.dirty] 1 rfl
 have h0:=Iw hy hw hc
 omega
theorem bd150 {g:Nat->Value} {ty:TypeId}    : aL n g ⟨dd,.build 150 #[],ty,pos,aft,gd⟩ w (.agg [cP].toArray):=
 iA (ps:=[]) (by simp only [aC3,aDb];kernel_rfl)
theorem NB (K:Nat->ByteArray) (y) (w) (hE:rI K w) (hy:y.Fit K) (hw:mS K y) (ha:y.At w) (hc:bG K y=true):cT 23 [.agg (aX.cells y).toArray] w fun v _=>v=.string ⟨(kD (Nq K y)).toArray⟩:=by
 refine aJ (n:=79) func23 rfl ntmps23 (aA1 rfl) (rg (cO (cs:=aX.cells y) rfl rfl fun w1 B1 k1 z1 =>?_))
 have leB1:=aDl w.heap.size
 refine bU (nx ?_)
 obtain ⟨wp,ewp⟩:∃ q,q=w1:=⟨_,rfl⟩
 subst ewp
 have B10:=B1
 refine rg (sq (bd150 ) (cO (cs:=[cP]) rfl rfl fun w2 B2 k2 z2 =>?_))
 have nB1_B2:=aC8 B1.lt
 have leB2:=k1.size
 have leB2_wp:=aDl wp.heap.size
 have leB2_w:=k1.size
 have b3:=aDu k1 k2
 have B1:=B1.below k2
 have b4:=aDu k1 k2
 refine eA (cs:=[.pointer none]) zeroValue147 rfl fun w5 B5 k5 z5 =>?_
 have nB1_B5:=aC8 B1.lt
 have nB2_B5:=aC8 B2.lt
 have leB5:=b3.size
 have leB5_wp:=k2.size
 have leB5_w:=b4.size
 have b6:=aDu b3 k5
 have B1:=B1.below k5
 have B2:=B2.below k5
 have b7:=aDu k2 k5
 refine eP B5 sizeOf147 rfl rfl rfl rfl fun w9 B5n O9 z9 =>?_
 replace B5:=B5n
 have b10:=aS.toBelow O9 b6 b6.size leB5
 have B1:=B1.only O9 nB1_B5
 have B2:=B2.only O9 nB2_B5
 have b11:=aS.toBelow O9 b7 b7.size leB5_wp
 refine nx ?_
 obtain ⟨wb,hwb⟩:∃ q,q=wp.heap.size:=⟨_,rfl⟩
 have hyw:w.heap.size≠wb:=by have:=B10.lt;omega
 have hbp:w2.heap.size≠wb:=by have:=nB2_B5;omega
 rw [<- hwb] at B2 B5
 have hS:Wr wb [] w9:=⟨none,0,B2,aEe 1 _⟩
 have hw0:w.heap.size<=wb:=by have:=k1.size;omega
 have ha':=ha.below k1
 have hEp:=hE.below k1
 refine rg (sq (vF rfl) (sq (AT rfl (B1.part (o:=0) (sub:=[zi y.site.nodes,.slice y.site.pb y.site.pools.length y.site.pc,zi y.site.band,zi y.site.backoff,zi y.site.tries,zi y.site.rate,zi y.site.half,zi y.site.qos,zi y.site.age,zi y.site.old,zi y.site.size,zi y.site.use]) rfl) rfl) (cE en71 (a1 rfl) (FF y.site _ hy.site (aZ.At.below ha.site b10)) ?_)))
 rintro v13 w13 k13 rfl
 have B1:=B1.below k13
 have B5:=B5.below k13
 have hS:=hS.below k13
 have b15:=aDu b11 k13
 have b16:=aDu b10 k13
 refine aN (.tuple #[.string (dW y.site),zi (cA 270 (bH y.site))]) rfl (sq (dT rfl rfl) (sq (dT rfl rfl) (aW (.string (dW y.site)) rfl (aW (zi (cA 270 (bH y.site))) rfl (nx (rg (sq (eI rfl (B5.cell 0 rfl)) (aN (.string (dW y.site)) rfl (xS rfl fun v17 w17 k17 r17 =>?_)))))))))
 have B1:=B1.below k17
 have B5:=B5.below k17
 have hS:=hS.below k17
 have b19:=aDu b15 k17
 have FC:=aDu b16 k17
 refine rN (fst:=[]) (caps:=[]) RH rfl (dZ (a2 rfl rfl)) (pS wb _ _ _ [] [dW y.site] _ hS r17 (by have:=kJ (dW y.site);have:=xU hy.site;simp only [aCk];omega):uL wb 72 _ [] (Vj y) _) fun v21 w21 k21 hS =>?_
 have B1:=B1.km k21 hyw
 have B5:=B5.km k21 hbp
 have b22:=aDs k21 b19 b19.size (fun i (hi:i=wb)=>by omega)
 have b23:=aDs k21 FC FC.size (fun i (hi:i=wb)=>by omega)
 have hL24:=IN hy hw hc
 refine nx (rg (sq (eI rfl (B5.cell 0 rfl)) (sq (zJ rfl) (sq (cZ rfl (B1.cell 12 rfl)) (sq (vO rfl) (sq (wA rfl) (sq (cZ rfl (B1.cell 13 rfl)) (Cr rfl rfl fun v25 w25 k25 r25 =>?_))))))))
 have B1:=B1.below k25
 have B5:=B5.below k25
 have hS:=hS.below k25
 have b27:=aDu b22 k25
 have b28:=aDu b23 k25
 refine rN (fst:=[]) (caps:=[]) zU rfl (dZ (a2 rfl rfl)) (gQ wb _ _ _ (Vj y) [y.now,y.next] _ hS r25 (by intro n hn;simp only [aC0,aBy,or_false] at hn;rcases hn with rfl | rfl;exact hy.now;exact hy.next) (by have:=IN hy hw hc;omega):uL wb 73 _ (Vj y) (Vq y) _) fun v29 w29 k29 hS =>?_
 have B1:=B1.km k29 hyw
 have B5:=B5.km k29 hbp
 have b30:=aDs k29 b27 b27.size (fun i (hi:i=wb)=>by omega)
 have b31:=aDs k29 b28 b28.size (fun i (hi:i=wb)=>by omega)
 have hL32:=JI hy hw hc
 refine nx (rg (sq (eI rfl (B5.cell 0 rfl)) (sq (vO rfl) (sq (qN rfl) (sq (Gr rfl (B1.cell 14 rfl)) (sq (Aa rfl) (rN (fst:=[]) (caps:=[]) en74 rfl (dZ (a3 rfl rfl rfl)) (Xs wb wp hwb 75 [] [pt w2.heap.size 0] (fun E x=>OF E K x) 50000000 (fun W=>Bk w2.heap.size [pt wb 0] 147 W) y.jb y.jc y.jobs (Vq y) _ en75 hS B5 (fun A B h k=>h.km k hbp) b30 ha'.jobs hy.jobsN (fun E x hx'=>Gc K E x (hy.jobs x hx') (hw x hx')) (fun E x W hx' hI hbW hSE hle=>XT wb w2.heap.size wp hwb E K x W hbW hI hbp hSE (XJ (BU hc).2.1 x hx') (hy.jobs x hx') (hw x hx') (ha'.jobsAt x hx') hEp (by omega)) (by have:=JI hy hw hc;have:=(jM hc).jobs;omega):uL wb 74 _ (Vq y) (Vi K y) _) fun v33 w33 k33 hS =>?_)))))))
 have B1:=B1.km k33 hyw
 have B5:=B5.km k33 hbp
 have b34:=aDs k33 b30 b30.size (fun i (hi:i=wb)=>by omega)
 have b35:=aDs k33 b31 b31.size (fun i (hi:i=wb)=>by omega)
 have hL36:=IT hy hw hc
 refine nx (rg (sq (eI rfl (B5.cell 0 rfl)) (sq (Ch rfl) (sq (Vl rfl (B1.cell 15 rfl)) (sq (Aa rfl) (rN (fst:=[]) (caps:=[]) en79 rfl (dZ (a3 rfl rfl rfl)) (Ym wb wp hwb 80 [] [pt w2.heap.size 0] NX 50000000 (fun W=>Bk w2.heap.size [pt wb 0] 147 W) y.bb y.bc y.bufs (Vi K y) _ en80 hS B5 (fun A B h k=>h.km k hbp) b34 ha'.bufs hy.bufsN (fun E x hx'=>Hw E x (hy.bufs x hx')) (fun E x W hx' hI hbW hSE hle=>Xz wb w2.heap.size wp hwb E x W hbW hI hbp hSE (hy.bufs x hx') (ha'.bufsAt x hx') (by omega)) (by have:=IT hy hw hc;have:=(jM hc).bufs;omega):uL wb 79 _ (Vi K y) (RX K y) _) fun v37 w37 k37 hS =>?_))))))
 have B1:=B1.km k37 hyw
 have B5:=B5.km k37 hbp
 have b38:=aDs k37 b34 b34.size (fun i (hi:i=wb)=>by omega)
 have b39:=aDs k37 b35 b35.size (fun i (hi:i=wb)=>by omega)
 have hL40:=JE hy hw hc
 refine nx (rg (sq (eI rfl (B5.cell 0 rfl)) (sq (vK rfl) (sq (MZ rfl (B1.cell 16 rfl)) (sq (Aa rfl) (rN (fst:=[]) (caps:=[]) en85 rfl (dZ (a3 rfl rfl rfl)) (Xp wb wp hwb 86 [] [pt w2.heap.size 0] Hs 1100000000000 (fun W=>Bk w2.heap.size [pt wb 0] 147 W) y.pb y.pc y.pools (RX K y) _ en86 hS B5 (fun A B h k=>h.km k hbp) b38 ha'.pools hy.poolsN (fun E x hx'=>Di E x (hy.pools x hx')) (fun E x W hx' hI hbW hSE hle=>UU wb w2.heap.size wp hwb E x W hbW hI hbp hSE (hy.pools x hx') (ha'.poolsAt x hx') (by omega)) (by have:=JE hy hw hc;have:=(jM hc).pools;omega):uL wb 85 _ (RX K y) (SW K y) _) fun v41 w41 k41 hS =>?_))))))
 have B1:=B1.km k41 hyw
 have B5:=B5.km k41 hbp
 have b42:=aDs k41 b38 b38.size (fun i (hi:i=wb)=>by omega)
 have DI:=aDs k41 b39 b39.size (fun i (hi:i=wb)=>by omega)
 have hL44:=Jf hy hw hc
 refine nx (rg (sq (eI rfl (B5.cell 0 rfl)) (sq (Ca rfl) (sq (Tv rfl (B1.cell 17 rfl)) (sq (Aa rfl) (rN (fst:=[]) (caps:=[]) en89 rfl (dZ (a3 rfl rfl rfl)) (Yt wb wp hwb 90 [] [pt w2.heap.size 0] Hg 10000000 (fun W=>Bk w2.heap.size [pt wb 0] 147 W) y.mb y.mc y.moves (SW K y) _ en90 hS B5 (fun A B h k=>h.km k hbp) b42 ha'.moves hy.movesN (fun E x _=>DV E x) (fun E x W hx' hI hbW hSE hle=>UE wb w2.heap.size wp hwb E x W hbW hI hbp hSE (hy.moves x hx') (by omega)) (by have:=Jf hy hw hc;have:=(jM hc).moves;omega):uL wb 89 _ (SW K y) (Vh K y) _) fun v45 w45 k45 hS =>?_))))))
 have B1:=B1.km k45 hyw
 have B5:=B5.km k45 hbp
 have b46:=aDs k45 b42 b42.size (fun i (hi:i=wb)=>by omega)
 have b47:=aDs k45 DI DI.size (fun i (hi:i=wb)=>by omega)
 have hL48:=IG hy hw hc
 refine nx (rg (sq (eI rfl (B5.cell 0 rfl)) (sq (vU rfl) (sq (Qm rfl (B1.cell 18 rfl)) (sq (Aa rfl) (rN (fst:=[]) (caps:=[]) en91 rfl (dZ (a3 rfl rfl rfl)) (YA wb wp hwb 92 [] [pt w2.heap.size 0] FB 10000000 (fun W=>Bk w2.heap.size [pt wb 0] 147 W) y.nb y.nc y.nodes (Vh K y) _ en92 hS B5 (fun A B h k=>h.km k hbp) b46 ha'.nodes hy.nodesN (fun E x _=>Dt E x) (fun E x W hx' hI hbW hSE hle=>Tu wb w2.heap.size wp hwb E x W hbW hI hbp hSE (hy.nodes x hx') (by omega)) (by have:=IG hy hw hc;have:=(jM hc).nodes;omega):uL wb 91 _ (Vh K y) (SA K y) _) fun v49 w49 k49 hS =>?_))))))
 have B1:=B1.km k49 hyw
 have B5:=B5.km k49 hbp
 have b50:=aDs k49 b46 b46.size (fun i (hi:i=wb)=>by omega)
 have b51:=aDs k49 b47 b47.size (fun i (hi:i=wb)=>by omega)
 have hL52:=Im hy hw hc
 refine nx (rg (sq (eI rfl (B5.cell 0 rfl)) (sq (CI rfl) (sq (Tl rfl (B1.cell 19 rfl)) (sq (Aa rfl) (rN (fst:=[]) (caps:=[]) en93 rfl (dZ (a3 rfl rfl rfl)) (Xq wb wp hwb 94 [] [pt w2.heap.size 0] CL 10000000 (fun W=>Bk w2.heap.size [pt wb 0] 147 W) y.sb y.sc y.shares (SA K y) _ en94 hS B5 (fun A B h k=>h.km k hbp) b50 ha'.shares hy.sharesN (fun E x hx'=>BZ E x (hy.shares x hx')) (fun E x W hx' hI hbW hSE hle=>QE wb w2.heap.size wp hwb E x W hbW hI hbp hSE (hy.shares x hx') (by omega)) (by have:=Im hy hw hc;have:=(jM hc).shares;omega):uL wb 93 _ (SA K y) (TJ K y) _) fun v53 w53 k53 hS =>?_))))))
 have B1:=B1.km k53 hyw
 have B5:=B5.km k53 hbp
 have b54:=aDs k53 b50 b50.size (fun i (hi:i=wb)=>by omega)
 have b55:=aDs k53 b51 b51.size (fun i (hi:i=wb)=>by omega)
 have hL56:=JC hy hw hc
 refine nx (rg (sq (eI rfl (B5.cell 0 rfl)) (sq (Bz rfl) (sq (SS rfl (B1.cell 20 rfl)) (sq (Aa rfl) (rN (fst:=[]) (caps:=[]) en95 rfl (dZ (a3 rfl rfl rfl)) (Yz wb wp hwb 96 [] [pt w2.heap.size 0] Qc 10000000 (fun W=>Bk w2.heap.size [pt wb 0] 147 W) y.rb y.rc y.rows (TJ K y) _ en96 hS B5 (fun A B h k=>h.km k hbp) b54 ha'.rows hy.rowsN (fun E x _=>FQ E x) (fun E x W hx' hI hbW hSE hle=>XG wb w2.heap.size wp hwb E x W hbW hI hbp hSE (hy.rows x hx') (by omega)) (by have:=JC hy hw hc;have:=(jM hc).rows;omega):uL wb 95 _ (TJ K y) (Sn K y) _) fun v57 w57 k57 hS =>?_))))))
 have B1:=B1.km k57 hyw
 have B5:=B5.km k57 hbp
 have b58:=aDs k57 b54 b54.size (fun i (hi:i=wb)=>by omega)
 have b59:=aDs k57 b55 b55.size (fun i (hi:i=wb)=>by omega)
 have hL60:=Iu hy hw hc
 refine nx (rg (sq (eI rfl (B5.cell 0 rfl)) (sq (CF rfl) (sq (Ek rfl (B1.cell 21 rfl)) (sq (eI rfl (B5.cell 0 rfl)) (sq (tX rfl) (rN (fst:=[]) (caps:=[]) ZZ rfl (dZ (a3 rfl rfl rfl)) (RF wb wp hwb 84 [pt wb 0] [] MY 1000 (fun _=>True) y.fb y.fc y.faults (Sn K y) _ Zy hS trivial (fun _ _ _ _=>trivial) b58 ha'.faults hy.faultsN (fun E x _=>aC7 (sA E x) (by omega)) (fun E x W hx' _ _ hSE hle=>Rp wb E x W hSE (hy.faults x hx') (by omega)) (by have:=Iu hy hw hc;have:=(jM hc).faults;omega):uL wb 83 _ (Sn K y) (SL K y) _) fun v61 w61 k61 hS =>?_)))))))
 have B1:=B1.km k61 hyw
 have B5:=B5.km k61 hbp
 have b63:=aDs k61 b59 b59.size (fun i (hi:i=wb)=>by omega)
 have hL64:=Iw hy hw hc
 refine nx (rg (sq (eI rfl (B5.cell 0 rfl)) (sq (Bt rfl) (sq (DB rfl (B1.cell 22 rfl)) (zI rfl fun v65 w65 k65 r65 =>?_)))))
 have B5:=B5.below k65
 have hS:=hS.below k65
 have b68:=aDu b63 k65
 refine rN (fst:=[]) (caps:=[]) Ly rfl (dZ (a2 rfl rfl)) (nX wb _ _ _ (SL K y) [y.dirty] _ hS r65 (by have:=Iw hy hw hc;omega):uL wb 78 _ (SL K y) (Nq K y) _) fun v69 w69 k69 hS =>?_
 have B5:=B5.km k69 hbp
 have b71:=aDs k69 b68 b68.size (fun i (hi:i=wb)=>by omega)
 have hL72:=Qr hy hw hc
 refine nx ?_
 obtain ⟨vb,vc,hWb,hRb⟩:=hS
 refine rg (sq (eI rfl (B5.cell 0 rfl)) (sq (dF rfl) (sq (jB rfl) (sq (uU rfl (hWb.cell 0 rfl)) (sq (Wm rfl hRb) (cE ZD (a1 rfl) (oM (xX ⟨(Nq K y).toArray⟩ _ (by have:=Qr hy hw hc;show (Nq K y).toArray.size<=_;rw [aBr];omega))) ?_))))))
 rintro _ w73 k73 rfl
 have b74:=aDu b71 k73
 exact aW (.string (⟨(kD (Nq K y)).toArray⟩)) rfl (nx (aE (bT rfl b74 rfl)))
theorem Km (K:Nat->ByteArray) (y) (w) (hE:rI K w) (hPh:nE w) (hy:y.Fit K) (hw:mS K y) (ha:y.At w):cT 7 [.agg (aX.cells y).toArray] w fun v _=>v=.tuple #[.string (uE K y),zi (cA 290 (bG K y))]:=by
 refine aJ (n:=9) func7 rfl ntmps7 (aA1 rfl) (rg (cO (cs:=aX.cells y) rfl rfl fun w1 B1 k1 z1 =>?_))
 have leB1:=aDl w.heap.size
 refine bU (bU (nx (aF (rg (sq (BH rfl B1.range rfl) (cE en8 (a1 rfl) (CE K y _ (hE.below k1) (hPh.below k1) hy (ha.below k1)) ?_))))))
 rintro _ w2 k2 rfl
 have b3:=aDu k1 k2
 have B1:=B1.below k2
 refine sq (gC rfl rfl) (nx ?_)
 refine cd rfl (fun c4=>?_) (fun c4=>?_)
 ·
  refine rg (bU (bU (nx (aE ?_))))
  have hc:=JL (by decide) c4
  exact Tm (R:=fun v _=>v=.tuple #[.string (uE K y),zi (cA 290 (bG K y))]) rfl b3 (by unfold uE;rw [hc];exact pY rfl rfl)
 ·
  refine aG (rg (sq (BH rfl B1.range rfl) (cE en23 (a1 rfl) (NB K y _ (hE.below b3) hy hw (ha.below b3) (nM (by decide) c4)) ?_)))
  rintro _ w5 k5 rfl
  have b6:=aDu b3 k5
  refine aW (.string (⟨(kD (Nq K y)).toArray⟩)) rfl (bU (nx (aE ?_)))
  have hc:=nM (by decide) c4
  exact Tm (R:=fun v _=>v=.tuple #[.string (uE K y),zi (cA 290 (bG K y))]) rfl b6 (by unfold uE;rw [aEc hc,uH (n:=290) hc];exact pY rfl rfl)
section
variable {n:Nat} {g:Nat->Value} {w:World} {dd:Option Tmp} {ty t t':TypeId} {pos:String} {aft:Array Edge} {gd:Option (Nat × Bool)} {x y z:Operand} {k k2:IntKind} {a b:Int} {s:ByteArray}
theorem Zo {i:Nat} {v:Int} (hx:ev n g x=.string s) (hy:ev n g y=.int k2 (i:Int)) (hi:∃ hi:i<s.size,v=((s[i]'hi).toNat:Int)):aL n g ⟨dd,.index 9 x y,ty,pos,aft,gd⟩ w (.int .u8 v):=by
 unfold aL execOp
 obtain ⟨hi,rfl⟩:=hi
 have h1:(0:Int)<=(i:Int)/\(i:Int)<(s.size:Int):=by omega
 have:=run_index_string (P:=prog) w 9 s k2 (i:Int) underlying9
 rw [dif_pos h1] at this
 simp [hx,hy,this]
theorem OQ {i:Nat} (hx:ev n g x=.string s) (hy:ev n g y=.int k2 (i:Int)) (hi:i<=s.size):aL n g ⟨dd,.slice 9 x (some y) none none,ty,pos,aft,gd⟩ w (.string (s.extract i s.size)):=by
 unfold aL execOp
 have h0:(0:Int)<=(i:Int)/\(i:Int)<=(s.size:Int):=by omega
 simp [hx,hy,Instr.sliceAt,Instr.slice,run_underlying underlying9,Instr.sliceBounds,Instr.sliceBound,asIntOf,h0,hi]
theorem XS {i:Nat} (hx:ev n g x=.string s) (hy:ev n g y=.int k2 (i:Int)) (hi:i<=s.size):aL n g ⟨dd,.slice 9 x none (some y) none,ty,pos,aft,gd⟩ w (.string (s.extract 0 i)):=by
 unfold aL execOp
 have h0:(0:Int)<=(i:Int)/\(i:Int)<=(s.size:Int):=by omega
 simp [hx,hy,Instr.sliceAt,Instr.slice,run_underlying underlying9,Instr.sliceBounds,Instr.sliceBound,asIntOf,h0,hi]
end
section
variable {r:Option Nat} {n:Nat} {ds:List Deferred} {g:Nat->Value} {w:World} {Q:Exit->Act->World->Prop} {l:List Oper} {ops:Array Oper} {ty:TypeId} {pos:String} {aft:Array Edge} {x:Operand}
theorem rG {M:Nat->Prop} {xs:List Operand} {R:Value->World->Prop} (hf:EN f) (hx:ev n g x=.func (.func f) fst.toArray caps.toArray)
  (ha:args=fst++xs.map (ev n g)++caps) (hc:jP M f args w R) (h:∀ v w',KM M w w'->R v w'->dY r ops Q l (fr n ds (match dd with | some d=>up g d v | none=>g)) w'):
  dY r ops Q (⟨dd,.call ⟨.value x,xs.toArray,ts⟩,ty,pos,aft,none⟩::l) (fr n ds g) w:=
 clF hf hx hc ha fun _ _ ⟨v,e,hb,hr⟩=>⟨v,e,by
  have:=h v _ hb hr
  cases dd with
  | none=>exact this
  | some d=>rw [fF];exact this⟩
end
theorem cY {M:Nat->Prop} (h:A.ownsRow base e sz v n xs) (k:KM M A B) (hb:∀ i,v.ownBlock=some i->¬ M i):B.ownsRow base e sz v n xs:=by
 obtain ⟨h1,h2 | ⟨g,cap,cur,e1,hbg,hg,h3⟩⟩:=h
 ·exact ⟨h1,.inl h2⟩
 ·refine ⟨h1,.inr ⟨g,cap,cur,e1,hbg,?_,h3⟩⟩
  have hlt:g<A.heap.size:=(Array.getElem?_eq_some_iff.1 hg).1
  exact (k.block g hlt (hb g (by rw [e1];rfl))).trans hg
def rdC (rb:Nat) (o:Option ByteArray):List Value:=[.string (o.getD ⟨#[]⟩),.bool o.isSome,.func (.func 41) [pt rb 0].toArray ([]:List Value).toArray]
def dJ (rb:Nat) (o:Option ByteArray) (w:World):Prop:=Bk rb (rdC rb o) 86 w
def uA (s:ByteArray):Nat->Nat->Int->Option (Int × Nat)
 | 0,_,_=>none
 | f+1,k,acc=>
  if h:k<s.size then
   bif decide (((k:Nat):Int)=(9:Int))&&decide ((1:Int)<(((s[k]'h).toNat:Nat):Int)) then none
   else bif decide ((128:Int)<=(((s[k]'h).toNat:Nat):Int)) then uA s f (k+1) (RU .u64 acc (yT .u64 (IntKind.wrap .u64 (uB .u8 (((s[k]'h).toNat:Nat):Int) 128)) ((7:Int)*((k:Nat):Int))))
   else bif decide (IntKind.wrap .u64 (uB .u8 (((s[k]'h).toNat:Nat):Int) 128)=(0:Int))&&decide ((0:Int)<((k:Nat):Int)) then none
   else some (RU .u64 acc (yT .u64 (IntKind.wrap .u64 (uB .u8 (((s[k]'h).toNat:Nat):Int) 128)) ((7:Int)*((k:Nat):Int))),k+1)
  else none
def De (s:ByteArray):Option (Int × Nat):=uA s 10 0 0
def fG (o:Option ByteArray):Int:=match o.bind De with | some p=>p.1 | none=>0
def aB (o:Option ByteArray):Option ByteArray:=match o with | some s=>(match De s with | some p=>some (s.extract p.2 s.size) | none=>none) | none=>none
theorem tS (rb) (o:Option ByteArray) (w) (hB:dJ rb o w):jP (·=rb) 41 [pt rb 0] w fun _ W=>dJ rb none W:=by
 refine aJ (n:=8) func41 rfl ntmps41 (aA1 rfl) (eO (aN (pt rb (0)) rfl (aN (pt rb (0)) rfl (sq (dF rfl) (sq (PT rfl) (eP hB sizeOf4 rfl rfl rfl rfl fun w1 hBn O1 z1 =>?_))))))
 replace hB:=hBn
 have m2:KM (·=rb) w w1:=(aD8 _ _).only O1 (.inl rfl)
 refine sq (dF rfl) (sq (rB rfl) (eP hB sizeOf9 rfl rfl rfl rfl fun w3 hBn O3 z3 =>?_))
 replace hB:=hBn
 have m4:=m2.only O3 (.inl rfl)
 exact nl (fV rfl ⟨_,rfl,m4,show Bk rb (rdC rb none) 86 _ from hB⟩)
theorem Iy {n:Nat} {g:Nat->Value} {w:World} {dd:Option Tmp} {ty:TypeId} {pos:String} {aft:Array Edge} {gd:Option (Nat × Bool)} {x0 x1:Operand} {a1:ByteArray} {a2:Bool} (h0:ev n g x0=.string a1) (h1:ev n g x1=.bool a2):aL n g ⟨dd,.build 86 #[(0,x0),(1,x1)],ty,pos,aft,gd⟩ w (.agg [.string a1,.bool a2,.nilFunc].toArray):=
 iA (ps:=[(0,x0),(1,x1)]) (by simp only [aC3,aDb,h0,h1];kernel_rfl)
theorem JY (s) (w):cT 12 [.string s] w fun v W=>∃ rb,v=pt rb 0/\w.heap.size<=rb/\dJ rb (some s) W:=by
 refine aJ (n:=13) func12 rfl ntmps12 (aA1 rfl) (rg (aW (.pointer none) rfl (nx (rg (aN (.string s) rfl (sq (Iy rfl rfl) (cO (cs:=[.string s,.bool true,.nilFunc]) rfl rfl fun w1 B1 k1 z1 =>?_)))))))
 have leB1:=aDl w.heap.size
 refine aW (pt w.heap.size (0)) rfl (nx (rg (aN (pt w.heap.size (0)) rfl (aN (pt w.heap.size (0)) rfl (sq (tX rfl) (sq (dF rfl) (sq (wF rfl) (eP B1 sizeOf1 rfl rfl rfl rfl fun w2 B1n O2 z2 =>?_))))))))
 replace B1:=B1n
 have b3:=aS.toBelow O2 k1 k1.size leB1
 exact nx (rg (aN (pt w.heap.size (0)) rfl (aW (pt w.heap.size (0)) rfl (nx (aE (bT rfl b3 ⟨_,rfl,leB1,B1⟩))))))
theorem Zt: prog.underlying 54=some (.pointer (prog.pointee 54)):=by kernel_rfl
theorem r_pn {g:Nat->Value} {ty t':TypeId} (hx:ev n g x=.pointer (some a)):aL n g ⟨dd,.binOp .neq 54 x (.const (.pointer none)) t',ty,pos,aft,gd⟩ w (.bool true):=by
 unfold aL execOp
 have h:(Op.equal 54 (.pointer (some a)) (.pointer none)).run prog w=.ok false w:=run_equal_pointer_nil w 54 (some a) Zt
 have hy:ev n g (.const (.pointer none))=.pointer none:=rfl
 simp [hx, hy, go_sem, h, eqGuard]
theorem lM (rb) (o:Option ByteArray) (w) (hB:dJ rb o w):cT 125 [pt rb 0] w fun v _=>v=.bool o.isSome:=by
 refine aJ (n:=11) func125 rfl ntmps125 (aA1 rfl) (rg (bU (nx (rg (aN (pt rb (0)) rfl (sq (r_pn rfl) (aN (.bool true) rfl (BQ (pt rb (0)) rfl rfl aT rfl (BQ (pt rb (0)) rfl rfl (dF rfl) rfl (BQ (pt rb (1)) rfl rfl (PT rfl) rfl (BQ (.bool ((o).isSome)) rfl rfl (DB rfl (hB.cell 1 rfl)) rfl (iJ (.bool ((o).isSome)) (uK rfl) rfl ?_))))))))))))
 exact aW (.bool ((o).isSome)) rfl (nx (aE (bT rfl (aDt _ _) rfl)))
theorem OS (rb) (w):cT 138 [pt rb 0] w fun v W=>∃ bi bx,v=.func (.func 192) #[] #[pt bi 0,pt bx 0]/\Bk bi [zi 0] 3 W/\Bk bx [pt rb 0] 54 W/\w.heap.size<=bi/\w.heap.size<=bx/\bx≠bi:=by
 refine aJ (n:=5) func138 rfl ntmps138 (aA1 rfl) (rg (cO (cs:=[pt rb (0)]) rfl rfl fun w1 B1 k1 z1 =>?_))
 have leB1:=aDl w.heap.size
 refine aW (.nilFunc) rfl (nx (rg (eA (cs:=[aV]) zeroValue3 rfl fun w2 B2 k2 z2 =>?_)))
 have nB1_B2:=aC8 B1.lt
 have leB2:=k1.size
 have b3:=aDu k1 k2
 have B1:=B1.below k2
 refine eP B2 sizeOf3 rfl rfl rfl rfl fun w4 B2n O4 z4 =>?_
 replace B2:=B2n
 have b5:=aS.toBelow O4 b3 b3.size leB2
 have B1:=B1.only O4 nB1_B2
 exact nx (rg (sq (mf2 rfl rfl) (aW (.func (.func 192) #[] #[pt w1.heap.size (0),pt w.heap.size (0)]) rfl (nx (aE (bT rfl b5 ⟨_,_,rfl,B2,B1,leB2,leB1,nB1_B2⟩))))))
theorem Hu (rb bi bx k:Nat) (t) (w) (hI:Bk bi [zi ((k:Nat):Int)] 3 w) (hX:Bk bx [pt rb 0] 54 w) (hR:dJ rb (some t) w) (hxi:bx≠bi) (hri:rb≠bi) (hk:k<=t.size) (ht:t.size<=1000000000):jP (·=bi) 192 [pt bi 0,pt bx 0] w fun v w'=>(k<t.size->∃ hk:k<t.size,v=.tuple #[.int .u8 ((t[k]'hk).toNat:Int),.bool true]/\Bk bi [zi ((k+1:Nat):Int)] 3 w')/\(¬ k<t.size->v=.tuple #[.int .u8 0,.bool false]/\Bk bi [zi (k:Int)] 3 w'):=by
 refine aJ (n:=20) func192 rfl ntmps192 (aA1 rfl) (rg (aW (.int .u8 (0)) rfl (bU (nx (aF ?_)))))
 refine sD ((vE (zi ((k:Nat):Int)))::(vE (pt rb (0)))::(vE (pt rb (0)))::(vE (pt rb (0)))::(vE (.string t))::(vE (zi ((t).size)))::(vE (.bool (decide ((((k:Nat):Int):Int)=((t).size:Int)))))::[]) [(6,10)] [0,1,2,3] rfl ⟨aA,aA,aA,aA,aA,aA,aA,trivial⟩ (by kernel_rfl) rfl rfl (fun Sd=>⟨
  iG 0 Sd rfl fun hT q=>EI q ((hI.below hT).cell 0 rfl),
  iG 1 Sd rfl fun hT q=>uG q ((hX.below hT).cell 0 rfl),
  aP [1] Sd rfl fun h=>dF h.1,
  aP [2] Sd rfl fun h=>rB h.1,
  fY [3] Sd rfl fun hT h=>nY h.1 ((hR.below hT).cell 0 rfl),
  aP [4] Sd rfl fun h=>wD underlying9 h.1,
  aP [0,5] Sd rfl fun h=>eZ h.1 h.2.1,
  trivial⟩) ?_
 rintro g1 w1 k1 ⟨s10,-⟩ ⟨o0,o1,o2,o3,-⟩
 have s10:g1 10=.bool (decide ((((k:Nat):Int):Int)=((t).size:Int))):=s10
 have s0:g1 0=pt bi (0):=o0.trans rfl
 have s1:g1 1=pt bx (0):=o1.trans rfl
 have s2:g1 2=.int .u8 (0):=o2.trans rfl
 have s3:g1 3=.bool false:=o3.trans rfl
 have hI:=hI.below k1
 have hX:=hX.below k1
 have hR:=hR.below k1
 have m2:KM (·=bi) w w1:=aDr k1
 refine cd (t:=decide ((((k:Nat):Int):Int)=((t).size:Int))) s10 (fun c3=>?_) (fun c3=>?_)
 ·
  exact rg (aW (.int .u8 (0)) rfl (bU (nx (aE (wJ (fn:=Tryz.f192) (R:=fun e w'=>∃ v,e=.returned v/\KM (·=bi) w w'/\(k<t.size->∃ hk:k<t.size,v=.tuple #[.int .u8 ((t[k]'hk).toNat:Int),.bool true]/\Bk bi [zi ((k+1:Nat):Int)] 3 w')/\(¬ k<t.size->v=.tuple #[.int .u8 0,.bool false]/\Bk bi [zi (k:Int)] 3 w')) rfl ⟨_,rfl,m2,⟨fun h=>absurd h (by have:=aBp c3;omega),fun _=>⟨pY rfl rfl,hI⟩⟩⟩)))))
 ·
  refine aG (rg (sq (EI s0 (hI.cell 0 rfl)) (sq (iK rfl rfl (⟨by omega,by omega⟩)) (eP hI sizeOf3 s0 rfl rfl rfl fun w4 hIn O4 z4 =>?_))))
  replace hI:=hIn
  have hX:=hX.only O4 hxi
  have hR:=hR.only O4 hri
  have m5:=m2.only O4 (.inl rfl)
  refine nx ?_
  refine sD ((vE (pt rb (0)))::(vE (pt rb (0)))::(vE (pt rb (0)))::(vE (.string t))::(vE (zi ((((k:Nat):Int):Int)+(1:Int))))::(vE (zi ((k:Nat):Int)))::(vE (.int .u8 (((t)[k]'(by have:=aBe c3;omega)).toNat)))::(vE (.int .u8 (((t)[k]'(by have:=aBe c3;omega)).toNat)))::(vE (.bool true))::[]) [(7,2),(8,3)] [] rfl ⟨aA,aA,aA,aA,aA,aA,aA,aA,aA,trivial⟩ (by kernel_rfl) rfl rfl (fun Sd=>⟨
   iG 1 Sd rfl fun hT q=>uG (q.trans s1) ((hX.below hT).cell 0 rfl),
   aP [0] Sd rfl fun h=>dF h.1,
   aP [1] Sd rfl fun h=>rB h.1,
   fY [2] Sd rfl fun hT h=>nY h.1 ((hR.below hT).cell 0 rfl),
   iG 0 Sd rfl fun hT q=>EI (q.trans s0) ((hI.below hT).cell 0 rfl),
   oW [(4,17)] [] Sd rfl fun _ _ _ h _=>dv (tB h.1 rfl (⟨by omega,by omega⟩)) (aD7 (Value.int .i64) (by omega)),
   aP [3,5] Sd rfl fun h=>Zo (s:=t) (i:=k) h.1 h.2.1 ⟨(by have:=aBe c3;omega),rfl⟩,
   oW [(6,19)] [] Sd rfl fun _ _ _ h _=>dv kC h.1,
   oW [] [] Sd rfl fun _ _ _ _ _=>dv kC rfl,
   trivial⟩) ?_
  rintro g6 w6 k6 ⟨s2,s3,-⟩ -
  have s2:g6 2=.int .u8 (((t)[k]'(by have:=aBe c3;omega)).toNat):=s2
  have s3:g6 3=.bool true:=s3
  have hI:=hI.below k6
  have m7:=m5.below k6
  exact aE (wJ (fn:=Tryz.f192) (R:=fun e w'=>∃ v,e=.returned v/\KM (·=bi) w w'/\(k<t.size->∃ hk:k<t.size,v=.tuple #[.int .u8 ((t[k]'hk).toNat:Int),.bool true]/\Bk bi [zi ((k+1:Nat):Int)] 3 w')/\(¬ k<t.size->v=.tuple #[.int .u8 0,.bool false]/\Bk bi [zi (k:Int)] 3 w')) rfl ⟨_,rfl,m7,⟨fun h=>⟨h,pY s2 s3,hI⟩,fun h=>absurd (by have:=aBe c3;omega) h⟩⟩)
theorem Ox {a:Int} (h:¬ k<s.size):uA s f k a=none:=by
 cases f with
 | zero=>rfl
 | succ f=>unfold uA;rw [dif_neg h]
theorem Lx {f k:Nat} {a:Int} (h:k<s.size) (hc:(decide (((k:Nat):Int)=(9:Int))&&decide ((1:Int)<(((s[k]'h).toNat:Nat):Int)))=true):uA s (f+1) k a=none:=by
 unfold uA;rw [dif_pos h,hc];rfl
theorem Mj {a:Int} (h:k<s.size) (hc:(decide (((k:Nat):Int)=(9:Int))&&decide ((1:Int)<(((s[k]'h).toNat:Nat):Int)))=false) (h2:decide ((128:Int)<=(((s[k]'h).toNat:Nat):Int))=true):uA s (f+1) k a=uA s f (k+1) (RU .u64 a (yT .u64 (IntKind.wrap .u64 (uB .u8 (((s[k]'h).toNat:Nat):Int) 128)) ((7:Int)*((k:Nat):Int)))):=by
 rw [uA,dif_pos h,hc,h2];rfl
theorem LV {f k:Nat} {a:Int} (h:k<s.size) (hc:(decide (((k:Nat):Int)=(9:Int))&&decide ((1:Int)<(((s[k]'h).toNat:Nat):Int)))=false) (h2:decide ((128:Int)<=(((s[k]'h).toNat:Nat):Int))=false) (h3:(decide (IntKind.wrap .u64 (uB .u8 (((s[k]'h).toNat:Nat):Int) 128)=(0:Int))&&decide ((0:Int)<((k:Nat):Int)))=true):uA s (f+1) k a=none:=by
 rw [uA,dif_pos h,hc,h2,h3];rfl
theorem Mi {f k:Nat} {a:Int} (h:k<s.size) (hc:(decide (((k:Nat):Int)=(9:Int))&&decide ((1:Int)<(((s[k]'h).toNat:Nat):Int)))=false) (h2:decide ((128:Int)<=(((s[k]'h).toNat:Nat):Int))=false) (h3:(decide (IntKind.wrap .u64 (uB .u8 (((s[k]'h).toNat:Nat):Int) 128)=(0:Int))&&decide ((0:Int)<((k:Nat):Int)))=false):uA s (f+1) k a=some (RU .u64 a (yT .u64 (IntKind.wrap .u64 (uB .u8 (((s[k]'h).toNat:Nat):Int) 128)) ((7:Int)*((k:Nat):Int))),k+1):=by
 rw [uA,dif_pos h,hc,h2,h3];rfl
theorem KJ (h:De s=none):fG (some s)=0/\aB (some s)=none:=by
 unfold fG aB;simp [h]
theorem Xw {p:Int × Nat} (h:De s=some p):fG (some s)=p.1/\aB (some s)=some (s.extract p.2 s.size):=by
 unfold fG aB;simp [h]
theorem Tb (rb) (w) (hB:dJ rb none w):jP (·=rb) 49 [pt rb 0] w fun v w'=>v=.int .u64 (fG none)/\dJ rb (aB none) w':=by
 refine aJ (n:=66) func49 rfl ntmps49 (aA1 rfl) (rg (aW (.int .u64 (0)) rfl (nx (aF (rg (aN (pt rb (0)) rfl (cE yQ (a1 rfl) (lM rb none _ hB) ?_)))))))
 rintro _ w1 k1 rfl
 have hB:=hB.below k1
 have m2:KM (·=rb) w w1:=aDr k1
 exact sq (Qi rfl) (nx (Ns rfl (rg (aW (.int .u64 (0)) rfl (nx (aE (fO (fn:=Tryz.f49) (R:=fun e w'=>∃ v,e=.returned v/\KM (·=rb) w w'/\(v=.int .u64 (fG none)/\dJ rb (aB none) w')) rfl ⟨_,rfl,m2,rfl,hB⟩)))))))
theorem Vp (rb) (t) (w) (hB:dJ rb (some t) w) (ht:t.size<=1000000000):jP (·=rb) 49 [pt rb 0] w fun v w'=>v=.int .u64 (fG (some t))/\dJ rb (aB (some t)) w':=by
 refine aJ (n:=66) func49 rfl ntmps49 (aA1 rfl) (rg (aW (.int .u64 (0)) rfl (nx (aF (rg (aN (pt rb (0)) rfl (cE yQ (a1 rfl) (lM rb (some t) _ hB) ?_)))))))
 rintro _ w1 k1 rfl
 have hB:=hB.below k1
 have m2:KM (·=rb) w w1:=aDr k1
 refine sq (PN rfl) (nx (rM rfl (aG (rg (aN (pt rb (0)) rfl ?_)))))
 have hB0:=hB
 have hw1s:=m2.size
 refine cE Ze (a1 rfl) (OS rb _) ?_
 rintro v3 w3 k3 ⟨bi,bx,rfl,hI,hX,hbi,hbx,hxi⟩
 have hB:=hB.below k3
 have m4:=m2.below k3
 have hri:rb≠bi:=by have:=hB0.lt;omega
 have hrx:rb≠bx:=by have:=hB0.lt;omega
 refine aW (.func (.func 192) #[] #[pt bi (0),pt bx (0)]) rfl (nx (rg (aW (.int .u64 (0)) rfl (nx (aF (rg (rU (nx ?_))))))))
 refine aO (lp (fun m g W=>∃ k:Nat,∃ acc:Int,m=10 - k/\g 0=pt rb (0)/\g 2=.int .u64 (0)/\g 3=.func (.func 192) #[] #[pt bi (0),pt bx (0)]/\g 4=.int .u64 acc/\g 14=zi ((k:Nat):Int)/\Bk rb (rdC rb (some t)) 86 W/\Bk bi ([zi ((k:Nat):Int)]) 3 W/\Bk bx ([pt rb 0]) 54 W/\KM (·=rb) w W/\(k<=10/\k<=t.size/\De t=uA t (10 - k) k acc)) _ ⟨0,0,rfl,rfl,rfl,rfl,rfl,rfl,hB,hI,hX,m4,⟨by omega,by omega,rfl⟩⟩ ?_)
 rintro m g5 w5 ⟨k,acc,hme,s0,s2,s3,s4,s14,hB,hI,hX,km5_w,⟨hk10,hks,hq⟩⟩
 refine rg (sq (eT s14 rfl) (nx (aF ?_)))
 refine cd rfl (fun c6=>?_) (fun c6=>?_)
 ·
  refine aG (aF (aO ?_))
  have hk10':k<10:=by have:=aBp c6;omega
  have h10:10 - k=(9 - k)+1:=by omega
  refine rg (bI s14 (aW (zi ((k:Nat):Int)) rfl (nx ?_)))
  rcases aDd k t.size with hkt | hkt
  ·
   refine rg (bI s3 (rG (fst:=[]) (caps:=[pt bi (0),pt bx (0)]) Wa rfl (dZ rfl) (Hu rb bi bx k t _ hI hX hB hxi hri hks ht) ?_))
   rintro v7 w7 k7 ⟨hY,-⟩
   obtain ⟨_,rfl,hI⟩:=hY hkt
   have hB:=hB.km k7 (fun e=>hri e)
   have hX:=hX.km k7 (fun e=>hxi e)
   have m8:KM (·=rb) w w7:=km5_w.next k7 (fun i (hi:i=bi)=>.inr (by omega))
   refine aN (.tuple #[.int .u8 (((t[k]'hkt).toNat:Nat):Int),.bool true]) rfl (sq (dT rfl rfl) (sq (dT rfl rfl) (aW (.int .u8 (((t[k]'hkt).toNat:Nat):Int)) rfl (aW (.bool true) rfl (nx (rg (aN (.int .u8 (((t[k]'hkt).toNat:Nat):Int)) rfl (sq (QB rfl rfl) (sq (pO underlying5 underlying104 rfl) (aW (.int .u64 (IntKind.wrap .u64 (uB .u8 (((t[k]'hkt).toNat:Nat):Int) (128)))) rfl (nx (aF ?_))))))))))))
   refine sQ (_::_::_::_::_::_::_::_::_::_::[]) [(9,34)] [0,2,3,4,5,6,8,14] rfl ⟨aA,aA,aA,aD aA,aD aA,aD aA,aD aA,aD aA,aD aA,aA,trivial⟩ (by kernel_rfl) rfl rfl rfl (fun Sd=>⟨
    bF Sd rfl rfl,
    aP [0] Sd rfl fun h=>PN h.1,
    oW [(1,26)] [] Sd rfl fun _ _ _ h _=>dv aT h.1,
    tW Sd rfl rfl,
    cK [3] Sd rfl fun e _ h=>eZ (h.1.1 e) rfl,
    oF [(4,29)] [] Sd rfl i2 gU fun e _ _ _ h _=>dv aT (mY e (h.1.1 e)),
    AZ [] [6] Sd rfl i2 gU fun e _ _ _ _ q=>dv aT (mY e q.1),
    rX [6] Sd rfl fun e _ h=>gH (h.1.1 e) rfl,
    cK [5,7] Sd rfl fun e _ h=>cG (h.1.1 e) (fun c=>h.2.1.1 (aa e c)),
    aP [2,8] Sd rfl fun h=>dA h.1 (fun c=>h.2.1.1 (tn c)),
    trivial⟩) ?_
   rintro g9 w9 k9 ⟨s34,-⟩ ⟨o0,o2,o3,o4,o5,o6,o8,o14,-⟩
   have s0:=o0.trans s0
   have s2:=o2.trans s2
   have s3:=o3.trans s3
   have s4:=o4.trans s4
   have s5:g9 5=zi ((k:Nat):Int):=o5.trans rfl
   have s6:g9 6=.int .u8 (((t[k]'hkt).toNat:Nat):Int):=o6.trans rfl
   have s8:g9 8=.int .u64 (IntKind.wrap .u64 (uB .u8 (((t[k]'hkt).toNat:Nat):Int) (128))):=o8.trans rfl
   have s14:=o14.trans s14
   have hB:=hB.below k9
   have hI:=hI.below k9
   have hX:=hX.below k9
   have m10:=m8.below k9
   refine cd s34 (fun c11=>?_) (fun c11=>?_)
   ·
    refine cI ?_
    repeat (first | refine bN ?_ | refine dC rfl ?_)
    refine dP ?_
    have hno:De t=none:=hq.trans (by rw [h10];exact Lx hkt c11)
    refine rg (bI s0 (sq (dF rfl) (sq (wF rfl) (sq (YJ rfl (hB.cell 2 rfl)) (rG (fst:=[pt rb 0]) (caps:=[]) Lq rfl (CT rfl) (tS rb _ _ hB) ?_)))))
    rintro v12 w12 k12 hB
    have m13:=m10.next k12 (fun i (hi:i=rb)=>.inl hi)
    refine nx (rg (aW (.int .u64 (0)) rfl (nx (aE ?_))))
    obtain ⟨e1,e2⟩:=KJ hno
    rw [e1,e2]
    exact fO (fn:=Tryz.f49) (R:=fun e w'=>∃ v,e=.returned v/\KM (·=rb) w w'/\(v=.int .u64 0/\dJ rb none w')) rfl ⟨_,rfl,m13,rfl,hB⟩
   ·
    refine aG (rg (bI s4 (bI s8 (bI s5 (sq (Wd rfl rfl (⟨by omega,by omega⟩)) (sq (Kz rfl rfl (by omega)) (sq (ZO rfl rfl) (aW (.int .u64 (RU .u64 acc (yT .u64 (IntKind.wrap .u64 (uB .u8 (((t[k]'hkt).toNat:Nat):Int) (128))) ((7:Int)*(((k:Nat):Int):Int))))) rfl (nx (aF (rg (bI s6 ?_))))))))))))
    refine sq (nU rfl rfl) (nx ?_)
    refine cd rfl (fun c14=>?_) (fun c14=>?_)
    ·
     refine cI ?_
     repeat (first | refine bN ?_ | refine dC rfl ?_)
     exact dP (eO (sq (iK s14 rfl (⟨by omega,by omega⟩)) (aN (zi ((((k:Nat):Int):Int)+(1:Int))) rfl (nl (fC (by omega) ⟨k+1,RU .u64 acc (yT .u64 (IntKind.wrap .u64 (uB .u8 (((t[k]'hkt).toNat:Nat):Int) (128))) ((7:Int)*(((k:Nat):Int):Int))),rfl,s0,s2,s3,rfl,(aD7 (Value.int .i64) (by omega)),hB,hI,hX,m10,⟨by omega,hkt,hq.trans (by rw [h10];exact (Mj hkt c11 c14).trans (by rw [show 10 - (k+1)=9 - k from by omega]))⟩⟩)))))
    ·
     refine aG (aF ?_)
     refine sQ (_::_::_::_::_::_::[]) [(5,48)] [0,2,3,4,5,14] rfl ⟨aA,aA,aA,aD aA,aD aA,aA,trivial⟩ (by kernel_rfl) rfl rfl rfl (fun Sd=>⟨
      bF Sd rfl s8,
      aP [0] Sd rfl fun h=>eZ h.1 rfl,
      oW [(1,44)] [] Sd rfl fun _ _ _ h _=>dv aT h.1,
      iP Sd rfl s5,
      dM [3] Sd rfl fun e _ h=>gH (h.1.1 e) rfl,
      aP [2,4] Sd rfl fun h=>cG h.1 (fun c=>h.2.1.1 c),
      trivial⟩) ?_
     rintro g15 w15 k15 ⟨s48,-⟩ ⟨o0,o2,o3,o4,o5,o14,-⟩
     have s0:=o0.trans s0
     have s4:g15 4=.int .u64 (RU .u64 acc (yT .u64 (IntKind.wrap .u64 (uB .u8 (((t[k]'hkt).toNat:Nat):Int) (128))) ((7:Int)*(((k:Nat):Int):Int)))):=o4.trans rfl
     have s5:=o5.trans s5
     have hB:=hB.below k15
     have m16:=m10.below k15
     refine cd s48 (fun c17=>?_) (fun c17=>?_)
     ·
      refine cI ?_
      repeat (first | refine bN ?_ | refine dC rfl ?_)
      refine dP ?_
      have hno:De t=none:=hq.trans (by rw [h10];exact LV hkt c11 c14 c17)
      refine rg (bI s0 (sq (dF rfl) (sq (wF rfl) (sq (YJ rfl (hB.cell 2 rfl)) (rG (fst:=[pt rb 0]) (caps:=[]) Lq rfl (CT rfl) (tS rb _ _ hB) ?_)))))
      rintro v18 w18 k18 hB
      have m19:=m16.next k18 (fun i (hi:i=rb)=>.inl hi)
      refine nx (rg (aW (.int .u64 (0)) rfl (nx (aE ?_))))
      obtain ⟨e1,e2⟩:=KJ hno
      rw [e1,e2]
      exact fO (fn:=Tryz.f49) (R:=fun e w'=>∃ v,e=.returned v/\KM (·=rb) w w'/\(v=.int .u64 0/\dJ rb none w')) rfl ⟨_,rfl,m19,rfl,hB⟩
     ·
      refine aG ?_
      have hyes:De t=some _:=hq.trans (by rw [h10];exact Mi hkt c11 c14 c17)
      refine rg (bI s0 (bI s0 (sq (dF rfl) (sq (rB rfl) (sq (nY rfl (hB.cell 0 rfl)) (bI s5 (iJ (zi ((k+1:Nat):Int)) (iK rfl rfl (⟨by omega,by omega⟩)) (aD7 (Value.int .i64) (by omega)) (sq (OQ rfl rfl hkt) (sq (dF rfl) (sq (rB rfl) (eP hB sizeOf9 rfl rfl rfl rfl fun w20 hBn O20 z20 =>?_)))))))))))
      replace hB:=hBn
      have m21:=m16.only O20 (.inl rfl)
      refine nx (rg (bI s4 (aW (.int .u64 (RU .u64 acc (yT .u64 (IntKind.wrap .u64 (uB .u8 (((t[k]'hkt).toNat:Nat):Int) (128))) ((7:Int)*(((k:Nat):Int):Int))))) rfl (nx (aE ?_)))))
      obtain ⟨e1,e2⟩:=Xw hyes
      rw [e1,e2]
      exact fO (fn:=Tryz.f49) (R:=fun e w'=>∃ v,e=.returned v/\KM (·=rb) w w'/\(v=.int .u64 _/\dJ rb (some _) w')) rfl ⟨_,rfl,m21,rfl,hB⟩
  ·
   refine rg (bI s3 (rG (fst:=[]) (caps:=[pt bi (0),pt bx (0)]) Wa rfl (dZ rfl) (Hu rb bi bx k t _ hI hX hB hxi hri hks ht) ?_))
   rintro v22 w22 k22 ⟨-,hY⟩
   obtain ⟨rfl,hI⟩:=hY (by omega)
   have hB:=hB.km k22 (fun e=>hri e)
   have m23:KM (·=rb) w w22:=km5_w.next k22 (fun i (hi:i=bi)=>.inr (by omega))
   refine aN (.tuple #[.int .u8 (0),.bool false]) rfl (sq (dT rfl rfl) (sq (dT rfl rfl) (aW (.int .u8 (0)) rfl (aW (.bool false) rfl (nx (rg (aN (.int .u8 (0)) rfl (sq (QB rfl rfl) (sq (pO underlying5 underlying104 rfl) (aW (.int .u64 (IntKind.wrap .u64 (uB .u8 (0) (128)))) rfl (nx (aF ?_))))))))))))
   refine sQ (_::_::_::_::_::_::_::_::_::_::[]) [(9,34)] [0,2,3,4,5,6,8,14] rfl ⟨aA,aA,aA,aD aA,aD aA,aD aA,aD aA,aD aA,aD aA,aA,trivial⟩ (by kernel_rfl) rfl rfl rfl (fun Sd=>⟨
    bF Sd rfl rfl,
    aP [0] Sd rfl fun h=>Qi h.1,
    oW [(1,26)] [] Sd rfl fun _ _ _ h _=>dv aT h.1,
    tW Sd rfl rfl,
    cK [3] Sd rfl fun e _ h=>eZ (h.1.1 e) rfl,
    oF [(4,29)] [] Sd rfl i2 gU fun e _ _ _ h _=>dv aT (mY e (h.1.1 e)),
    AZ [] [6] Sd rfl i2 gU fun e _ _ _ _ q=>dv aT (mY e q.1),
    rX [6] Sd rfl fun e _ h=>gH (h.1.1 e) rfl,
    cK [5,7] Sd rfl fun e _ h=>cG (h.1.1 e) (fun c=>h.2.1.1 (aa e c)),
    aP [2,8] Sd rfl fun h=>dA h.1 (fun c=>h.2.1.1 (tn c)),
    trivial⟩) ?_
   rintro g24 w24 k24 ⟨s34,-⟩ ⟨o0,o2,o3,o4,o5,o6,o8,o14,-⟩
   have s0:=o0.trans s0
   have hB:=hB.below k24
   have m25:=m23.below k24
   refine Ns (s34.trans (aD7 Value.bool (Bool.true_or _))) (cI ?_)
   repeat (first | refine bN ?_ | refine dC rfl ?_)
   refine dP ?_
   have hno:De t=none:=hq.trans (Ox (by omega))
   refine rg (bI s0 (sq (dF rfl) (sq (wF rfl) (sq (YJ rfl (hB.cell 2 rfl)) (rG (fst:=[pt rb 0]) (caps:=[]) Lq rfl (CT rfl) (tS rb _ _ hB) ?_)))))
   rintro v26 w26 k26 hB
   have m27:=m25.next k26 (fun i (hi:i=rb)=>.inl hi)
   refine nx (rg (aW (.int .u64 (0)) rfl (nx (aE ?_))))
   obtain ⟨e1,e2⟩:=KJ hno
   rw [e1,e2]
   exact fO (fn:=Tryz.f49) (R:=fun e w'=>∃ v,e=.returned v/\KM (·=rb) w w'/\(v=.int .u64 0/\dJ rb none w')) rfl ⟨_,rfl,m27,rfl,hB⟩
 ·
  refine cI ?_
  repeat (first | refine bN ?_ | refine dC rfl ?_)
  refine dP ?_
  have hno:De t=none:=hq.trans (by have:=aBe c6;rw [show 10 - k=0 from by omega];rfl)
  refine rg (bI s0 (sq (dF rfl) (sq (wF rfl) (sq (YJ rfl (hB.cell 2 rfl)) (rG (fst:=[pt rb 0]) (caps:=[]) Lq rfl (CT rfl) (tS rb _ _ hB) ?_)))))
  rintro v28 w28 k28 hB
  have m29:KM (·=rb) w w28:=km5_w.next k28 (fun i (hi:i=rb)=>.inl hi)
  refine nx (rg (aW (.int .u64 (0)) rfl (nx (aE ?_))))
  obtain ⟨e1,e2⟩:=KJ hno
  rw [e1,e2]
  exact fO (fn:=Tryz.f49) (R:=fun e w'=>∃ v,e=.returned v/\KM (·=rb) w w'/\(v=.int .u64 0/\dJ rb none w')) rfl ⟨_,rfl,m29,rfl,hB⟩
theorem FW (a:Int):0<=IntKind.wrap .u64 a/\IntKind.wrap .u64 a<18446744073709551616:=by rw [aCa];omega
theorem dU (a:Int):jO (IntKind.wrap .i64 a):=by unfold jO;rw [IntKind.wrap_i64];omega
theorem wI: ∀ (f k:Nat) (a:Int) (p:Int × Nat),uA s f k a=some p->(0<=p.1/\p.1<18446744073709551616)/\k<p.2/\p.2<=s.size
 | 0,k,a,p,h=>by cases h
 | f+1,k,a,p,h=>by
  unfold uA at h
  split at h
  ·rename_i hk
   simp only [cond_eq_ite] at h
   split at h
   ·cases h
   ·split at h
    ·have:=wI f (k+1) _ p h
     exact ⟨this.1,by omega,this.2.2⟩
    ·split at h
     ·cases h
     ·cases h
      exact ⟨FW _,Nat.lt_succ_self _,hk⟩
  ·cases h
theorem Ar (o:Option ByteArray):0<=fG o/\fG o<18446744073709551616:=by
 unfold fG
 split
 ·rename_i p hp
  cases o with
  | none=>cases hp
  | some s=>exact (wI 10 0 0 p hp).1
 ·decide
theorem pV (h:aB (some t)=some t'):t'.size<t.size:=by
 unfold aB at h
 simp only at h
 split at h
 ·rename_i p hp
  cases h
  have:=(wI 10 0 0 p hp).2
  rw [aA0];omega
 ·cases h
def bM (o:Option ByteArray):Prop:=∀ t,o=some t->t.size<=1000000
theorem bM.rd {o:Option ByteArray} (h:bM o):bM (aB o):=fun t ht=>by
 cases o with
 | none=>cases ht
 | some s=>exact aDj (aBi (pV ht) (h s rfl))
theorem vV (rb) (o:Option ByteArray) (w) (hB:dJ rb o w) (ho:bM o):jP (·=rb) 49 [pt rb 0] w fun v w'=>v=.int .u64 (fG o)/\dJ rb (aB o) w':=by
 cases o with
 | none=>exact Tb rb w hB
 | some t=>exact Vp rb t w hB (aC7 (ho t rfl) (by decide))
def dD (o:Option ByteArray):Int:=Lu .i64 (IntKind.wrap .i64 (LE .u64 (fG o) 1)) (Sz .i64 (IntKind.wrap .i64 (Nf .u64 (fG o) 1)))
theorem bZ (o:Option ByteArray):jO (dD o):=dU _
def iM (o:Option ByteArray):Bool:=bif decide ((1:Int)<fG o) then false else decide (fG o=(1:Int))
def aQ (o:Option ByteArray):Option ByteArray:=bif decide ((1:Int)<fG o) then none else aB o
def tN (m:Int) (n:Int) (s:ByteArray):Bool:=(decide (IntKind.wrap .u64 (s.size:Int)<n)||decide (m<0))||decide (IntKind.wrap .u64 m<n)
def jG (m:Int) (o:Option ByteArray):ByteArray:=match aB o with | none=>⟨#[]⟩ | some s=>bif tN m (fG o) s then ⟨#[]⟩ else s.extract 0 (fG o).toNat
def aH (m:Int) (o:Option ByteArray):Option ByteArray:=match aB o with | none=>none | some s=>bif tN m (fG o) s then none else some (s.extract (fG o).toNat s.size)
theorem bM.none: bM none:=fun t h=>by cases h
theorem bM.rdF {o:Option ByteArray} (h:bM o):bM (aQ o):=by
 unfold aQ
 cases decide ((1:Int)<fG o)
 ·exact h.rd
 ·exact bM.none
theorem GH (m:Int) (o:Option ByteArray) (ho:o=some t):(jG m o).size<=t.size:=by
 subst ho
 unfold jG
 cases h:aB (some t) with
 | none=>exact aDm _
 | some s=>
  simp only
  cases tN m (fG (some t)) s
  ·simp only [cond_false]
   have:=pV h
   rw [aA0];omega
  ·exact aDm _
theorem DC {m:Int} (h:aH m (some t)=some t'):t'.size<t.size:=by
 unfold aH at h
 cases h1:aB (some t) with
 | none=>rw [h1] at h;cases h
 | some s=>
  rw [h1] at h
  simp only at h
  cases h2:tN m (fG (some t)) s
  ·rw [h2] at h;cases h
   have:=pV h1
   rw [aA0];omega
  ·rw [h2] at h;cases h
theorem bM.rdT {m:Int} {o:Option ByteArray} (h:bM o):bM (aH m o):=fun t ht=>by
 cases o with
 | none=>unfold aH aB at ht;cases ht
 | some s=>exact aDj (aBi (DC ht) (h s rfl))
theorem LW (h:aQ (some t)=some t'):t'.size<t.size:=by
 unfold aQ at h
 cases h2:decide ((1:Int)<fG (some t))
 ·rw [h2] at h;exact pV h
 ·rw [h2] at h;cases h
theorem TW (rb) (o:Option ByteArray) (w) (hB:dJ rb o w) (ho:bM o):jP (·=rb) 128 [pt rb 0] w fun v w'=>v=zi (dD o)/\dJ rb (aB o) w':=by
 refine aJ (n:=14) func128 rfl ntmps128 (aA1 rfl) (rg (bU (nx (rg (aN (pt rb (0)) rfl (rG (fst:=[]) (caps:=[]) If rfl (dZ (a1 rfl)) (vV rb o _ hB ho) ?_))))))
 rintro v1 w1 k1 ⟨rfl,hB⟩
 have m2:KM (·=rb) w w1:=(aD8 _ _).next k1 (fun i (hi:i=rb)=>.inl hi)
 refine aW (.int .u64 (fG o)) rfl (nx (rg (aN (.int .u64 (fG o)) rfl (sq (VI rfl rfl (by decide)) (sq (pO underlying104 underlying2 rfl) (aN (.int .u64 (fG o)) rfl (sq (Nv rfl rfl) (sq (pO underlying104 underlying2 rfl) (sq (r_neg rfl) (sq (EL rfl rfl) (aW (zi (Lu .i64 (IntKind.wrap .i64 (LE .u64 (fG o) (1))) (Sz .i64 (IntKind.wrap .i64 (Nf .u64 (fG o) (1)))))) rfl (nx ?_))))))))))))
 exact aE (fO rfl ⟨_,rfl,m2,rfl,hB⟩)
theorem GN (rb) (o:Option ByteArray) (w) (hB:dJ rb o w) (ho:bM o):jP (·=rb) 127 [pt rb 0] w fun v w'=>v=.bool (iM o)/\dJ rb (aQ o) w':=by
 refine aJ (n:=15) func127 rfl ntmps127 (aA1 rfl) (rg (bU (nx (rg (aN (pt rb (0)) rfl (rG (fst:=[]) (caps:=[]) If rfl (dZ (a1 rfl)) (vV rb o _ hB ho) ?_))))))
 rintro v1 w1 k1 ⟨rfl,hB⟩
 have m2:KM (·=rb) w w1:=(aD8 _ _).next k1 (fun i (hi:i=rb)=>.inl hi)
 refine aW (.int .u64 (fG o)) rfl (nx (aF (rg (aN (.int .u64 (fG o)) rfl (sq (gH rfl rfl) (nx ?_))))))
 refine cd rfl (fun c3=>?_) (fun c3=>?_)
 ·
  refine rg (aN (pt rb (0)) rfl (sq (dF rfl) (sq (wF rfl) (sq (YJ rfl (hB.cell 2 rfl)) (rG (fst:=[pt rb 0]) (caps:=[]) Lq rfl (CT rfl) (tS rb _ _ hB) ?_)))))
  rintro v4 w4 k4 hB
  have m5:=m2.next k4 (fun i (hi:i=rb)=>.inl hi)
  refine nx (rg (bU (nx (aE ?_))))
  have e1:iM o=_:=xM c3
  have e2:aQ o=_:=xM c3
  rw [e1,e2]
  exact fO (fn:=Tryz.f127) (R:=fun e w'=>∃ v,e=.returned v/\KM (·=rb) w w'/\(v=.bool _/\dJ rb _ w')) rfl ⟨_,rfl,m5,rfl,hB⟩
 ·
  refine aG (rg (aN (.int .u64 (fG o)) rfl (sq (eZ rfl rfl) (aW (.bool (decide ((fG o:Int)=(1:Int)))) rfl (nx (aE ?_))))))
  have e1:iM o=_:=uP c3
  have e2:aQ o=_:=uP c3
  rw [e1,e2]
  exact fO (fn:=Tryz.f127) (R:=fun e w'=>∃ v,e=.returned v/\KM (·=rb) w w'/\(v=.bool _/\dJ rb _ w')) rfl ⟨_,rfl,m2,rfl,hB⟩
theorem FP (rb) (m:Int) (o:Option ByteArray) (w) (hB:dJ rb o w) (ho:bM o):jP (·=rb) 126 [pt rb 0,zi m] w fun v w'=>v=.string (jG m o)/\dJ rb (aH m o) w':=by
 have hs9:∀ s,aB o=some s->s.size<=1000000:=ho.rd
 refine aJ (n:=51) func126 rfl ntmps126 (aA1 rfl) (rg (bU (nx (rg (aN (pt rb (0)) rfl (rG (fst:=[]) (caps:=[]) If rfl (dZ (a1 rfl)) (vV rb o _ hB ho) ?_))))))
 rintro v1 w1 k1 ⟨rfl,hB⟩
 have m2:KM (·=rb) w w1:=(aD8 _ _).next k1 (fun i (hi:i=rb)=>.inl hi)
 refine aW (.int .u64 (fG o)) rfl (nx (aF ?_))
 cases h1:aB o with
 | none=>
  rw [h1] at hB
  refine rg (aN (pt rb (0)) rfl (cE yQ (a1 rfl) (lM rb none _ hB) ?_))
  rintro _ w3 k3 rfl
  have hB:=hB.below k3
  have m4:=m2.below k3
  refine sq (Qi rfl) (nx (Ns rfl (rg (bU (nx (aE ?_))))))
  have e1:jG m o=⟨#[]⟩:=by unfold jG;rw [h1]
  have e2:aH m o=none:=by unfold aH;rw [h1]
  rw [e1,e2]
  exact fO (fn:=Tryz.f126) (R:=fun e w'=>∃ v,e=.returned v/\KM (·=rb) w w'/\(v=.string _/\dJ rb _ w')) rfl ⟨_,rfl,m4,rfl,hB⟩
 | some s=>
  rw [h1] at hB
  refine rg (aN (pt rb (0)) rfl (cE yQ (a1 rfl) (lM rb (some s) _ hB) ?_))
  rintro _ w5 k5 rfl
  have hB:=hB.below k5
  have m6:=m2.below k5
  refine sq (PN rfl) (nx (rM rfl (aG (aF ?_))))
  refine sQ (_::_::_::_::_::_::_::_::_::_::_::_::_::_::_::_::_::_::[]) [(17,29)] [0,4,5] rfl ⟨aA,aA,aA,aA,aA,aA,aA,aA,aA,aD aA,aD aA,aA,aA,aD aA,aD aA,aD aA,aD aA,aA,trivial⟩ (by kernel_rfl) rfl rfl rfl (fun Sd=>⟨
   bF Sd rfl rfl,
   bF Sd rfl rfl,
   aP [1] Sd rfl fun h=>dF h.1,
   aP [2] Sd rfl fun h=>rB h.1,
   fY [3] Sd rfl fun hT h=>nY h.1 ((hB.below hT).cell 0 rfl),
   aP [4] Sd rfl fun h=>wD underlying9 h.1,
   aP [5] Sd rfl fun h=>pO underlying3 underlying104 h.1,
   aP [0,6] Sd rfl fun h=>gH h.1 h.2.1,
   oW [(7,19)] [] Sd rfl fun _ _ _ h _=>dv aT h.1,
   tW Sd rfl rfl,
   cK [9] Sd rfl fun e _ h=>eT (h.1.1 e) rfl,
   aP [8,10] Sd rfl fun h=>dA h.1 (fun c=>h.2.1.1 (tn c)),
   oW [(11,23)] [] Sd rfl fun _ _ _ h _=>dv aT h.1,
   tW Sd rfl rfl,
   tW Sd rfl rfl,
   cK [14] Sd rfl fun e _ h=>pO underlying3 underlying104 (h.1.1 e),
   cK [13,15] Sd rfl fun e _ h=>gH (h.1.1 e) (h.2.1.1 e),
   aP [12,16] Sd rfl fun h=>dA h.1 (fun c=>h.2.1.1 (tn c)),
   trivial⟩) ?_
  rintro g7 w7 k7 ⟨s29,-⟩ ⟨o0,o4,o5,-⟩
  have s0:g7 0=pt rb (0):=o0.trans rfl
  have s5:g7 5=.int .u64 (fG o):=o5.trans rfl
  have hB:=hB.below k7
  have m8:=m6.below k7
  refine cd s29 (fun c9=>?_) (fun c9=>?_)
  ·
   refine rg (bI s0 (sq (dF rfl) (sq (wF rfl) (sq (YJ rfl (hB.cell 2 rfl)) (rG (fst:=[pt rb 0]) (caps:=[]) Lq rfl (CT rfl) (tS rb _ _ hB) ?_)))))
   rintro v10 w10 k10 hB
   have m11:=m8.next k10 (fun i (hi:i=rb)=>.inl hi)
   refine nx (rg (bU (nx (aE ?_))))
   have e1:jG m o=⟨#[]⟩:=by unfold jG;rw [h1];exact xM c9
   have e2:aH m o=none:=by unfold aH;rw [h1];exact xM c9
   rw [e1,e2]
   exact fO (fn:=Tryz.f126) (R:=fun e w'=>∃ v,e=.returned v/\KM (·=rb) w w'/\(v=.string _/\dJ rb _ w')) rfl ⟨_,rfl,m11,rfl,hB⟩
  ·
   refine aG ?_
   have hn:=Ar o
   have htm:tN m (fG o) s=false:=c9
   have hns:(fG o).toNat<=s.size:=by unfold tN at htm;simp only [aA7,decide_eq_false_iff_not] at htm;have h3:=htm.1.1;rw [aCa] at h3;have:=hs9 s h1;omega
   have hnn:fG o=(((fG o).toNat:Nat):Int):=by omega
   refine rg (bI s0 (sq (dF rfl) (sq (rB rfl) (sq (nY rfl (hB.cell 0 rfl)) (aN (.int .u64 (((fG o).toNat:Nat):Int)) ((s5).trans (aD7 (Value.int .u64) hnn)) (sq (XS rfl rfl hns) (aW (.string ((s).extract 0 ((fG o).toNat))) rfl (nx (rg (bI s0 (bI s0 (sq (dF rfl) ?_))))))))))))
   refine sq (rB rfl) (sq (nY rfl (hB.cell 0 rfl)) (aN (.int .u64 (((fG o).toNat:Nat):Int)) ((s5).trans (aD7 (Value.int .u64) hnn)) (sq (OQ rfl rfl hns) (sq (dF rfl) (sq (rB rfl) (eP hB sizeOf9 rfl rfl rfl rfl fun w12 hBn O12 z12 =>?_))))))
   replace hB:=hBn
   have m13:=m8.only O12 (.inl rfl)
   refine nx (rg (aN (.string ((s).extract 0 ((fG o).toNat))) rfl (aW (.string ((s).extract 0 ((fG o).toNat))) rfl (nx (aE ?_)))))
   have e1:jG m o=s.extract 0 (fG o).toNat:=by unfold jG;rw [h1];exact uP htm
   have e2:aH m o=some (s.extract (fG o).toNat s.size):=by unfold aH;rw [h1];exact uP htm
   rw [e1,e2]
   exact fO (fn:=Tryz.f126) (R:=fun e w'=>∃ v,e=.returned v/\KM (·=rb) w w'/\(v=.string _/\dJ rb _ w')) rfl ⟨_,rfl,m13,rfl,hB⟩
def gK:List PanicEntry:=[{ v:=.iface 42 (zi 290),recovered:=false }]
theorem AW {α:Type} {o:Option α} (h:o.isSome=false):o=none:=by
 cases o
 ·rfl
 ·cases h
theorem Xt: prog.concrete 42=true:=by kernel_rfl
section
variable {r:Option Nat} {n:Nat} {ds:List Deferred} {g:Nat->Value} {w:World} {Q:Exit->Act->World->Prop} {l:List Oper} {ops:Array Oper} {ty:TypeId} {pos:String} {aft:Array Edge} {x:Operand} {dd:Option Tmp} {gd:Option (Nat × Bool)} {o:Oper} {Pn:List PanicEntry->World->Prop} {R':Value->World->Prop} {v:Value}
theorem Yi (hx:ev n g x=v):aL n g ⟨dd,.makeInterface 42 x,ty,pos,aft,gd⟩ w (.iface 42 v):=by
 unfold aL execOp
 simp [hx,run_makeInterface w 42 v Xt]
theorem Lf (hx:ev n g x=.iface t v) (h:Q (.panic [{ v:=.iface t v,recovered:=false }]) (fr n ds g) w):dY r ops Q (⟨none,.panic x,ty,pos,aft,none⟩::l) (fr n ds g) w:=by
 refine eM rfl fun K hK=>QM (v:=.iface t v) (w':=w) (fun c e=>by cases e) ?_ h
 rw [bV]
 unfold execOp
 simp [hx,run_panic_iface]
theorem YH {M:Nat->Prop} {xs:List Operand} {R:Value->World->Prop} (hx:ev n g x=.func (.func f) fst.toArray caps.toArray) (ha:args=fst++xs.map (ev n g)++caps)
  (hf:EN f) (hc:jP M f args w R) (hR:∀ v w',KM M w w'->R v w'->R' v w'):tV n g ⟨dd,.call ⟨.value x,xs.toArray,ts⟩,ty,pos,aft,gd⟩ w Pn R':=by
 refine .inr (.inl ⟨f,args.toArray,?_,aDx hc fun e w' ⟨v,he,hk,hv⟩=>.inl ⟨v,he,hR v w' hk hv⟩⟩)
 unfold execOp
 simp [resolve,hx,Deferred.ofValue,invoke,hf,ha]
theorem Ey (hz:∀ w,(zeroValue t).run prog w=.ok z w) (hv:z.cells=cs.toArray) (h:∀ w',Bk w.heap.size cs t w'->Below w.heap.size w w'->R' (pt w.heap.size 0) w'):tV n g ⟨dd,.alloc t,ty,pos,aft,gd⟩ w Pn R':=by
 refine .inl ⟨pt w.heap.size 0,w.alloc (.cells cs.toArray t),?_,h _ (Bk.new cs t w) (iF w _)⟩
 unfold execOp
 simp [hz,Instr.alloc,newVar,newRow,hv]
end
theorem XO {M:Nat->Prop} {m:Nat} (hM:∀ i,M i->i<m):CW (KM M) (fun v W=>∃ b,v=pt b 0/\m<=b/\Bk b cs t W):=fun v a b ⟨x,e,h,hB⟩ k=>⟨x,e,h,hB.km k (fun e=>by have:=hM _ e;omega)⟩
theorem tD (rb) (b:Bool) (w):gB (fun _=>False) 44 [.agg [pt rb 0].toArray,.bool b] w (fun _ _=>b=true) (fun c _=>b=false/\c=gK):=by
 refine aJ (n:=7) func44 rfl ntmps44 (aA1 rfl) (rg (cO (cs:=[pt rb (0)]) rfl rfl fun w1 B1 k1 z1 =>?_))
 have lkB1_w:=aDl w.heap.size
 have m2:KM (fun _=>False) w w1:=aDr k1
 refine nx (rg (aN (.bool b) rfl (sq (cJ rfl) (nx ?_))))
 refine cd rfl (fun c3=>?_) (fun c3=>?_)
 ·
  exact eO (sq (Yi rfl) (Lf rfl (And.intro rfl (And.intro m2 (Or.inr (Exists.intro _ (And.intro rfl (And.intro (by simpa using c3) rfl))))))))
 ·
  exact aG (fV rfl ⟨m2,.inl ⟨_,rfl,by simpa using c3⟩⟩)
theorem eC (rb) (s:Option ByteArray) (w) (hB:dJ rb s w) (ho:bM s):gB (·=rb) 45 [.agg [pt rb 0].toArray] w (fun v W=>v=zi (dD s)/\(aB s).isSome=true/\dJ rb (aB s) W) (fun c _=>c=gK/\(aB s)=none):=by
 refine aJ (n:=13) func45 rfl ntmps45 (aA1 rfl) (rg (cO (cs:=[pt rb (0)]) rfl rfl fun w1 B1 k1 z1 =>?_))
 have hnx:w.heap.size≠rb:=by have:=aEf hB;omega
 have nhB_B1:=aC8 hB.lt
 have lkB1_w:=aDl w.heap.size
 have hB:=hB.below k1
 have m2:KM (·=rb) w w1:=aDr k1
 refine bU (nx (rg (sq (qR rfl) (sq (uG rfl (B1.cell 0 rfl)) (rG (fst:=[]) (caps:=[]) en128 rfl (dZ (a1 rfl)) (TW rb s _ hB ho) ?_)))))
 rintro v3 w3 k3 ⟨rfl,hB⟩
 have B1:=B1.km k3 (fun e=>hnx e)
 have m4:=m2.next k3 (fun i (hi:i=rb)=>.inl hi)
 refine aW (zi (dD s)) rfl (nx ?_)
 have hrbw:=hB.lt
 refine CP (fun c W=>c=gK/\(aB s)=none/\Below w3.heap.size w3 W) (lG (V:=_::_::_::(vE (.bool (aB s).isSome))::(fun _ _=>(aB s).isSome=true)::[]) rfl ⟨aA,aA,aA,aA,VV,trivial⟩) [(4,11)] [2,3] (by kernel_rfl) rfl rfl trivial (fun c g W ⟨e,hn,hb⟩=>And.intro rfl (And.intro ((m4).below hb) (Or.inr (Exists.intro c (And.intro rfl (And.intro e hn)))))) (fun Sd=>⟨
  iG 1 Sd rfl fun hT q=>dV q ((B1.below hT).range) rfl,
  jA 1 Sd rfl fun q=>qR q,
  fY [1] Sd rfl fun hT h=>uG h.1 ((B1.below hT).cell 0 rfl),
  oW [(2,9)] [] Sd rfl fun _ _ hT h _=>gV (a1 h.1) yQ (lM rb (aB s) _ (aD3 hB hT)),
  ow [(0,7),(3,10)] [] Sd rfl rfl rfl (by rintro g1 w1 hT ⟨h0,h3,-⟩ -;exact mZ (fst:=[]) (caps:=[]) rfl (dZ (a2 h0 h3)) Ln (tD rb _ w1) (fun v W hk e=>⟨aDs hk (aDt _ _) (aDl _) (fun _ h=>h.elim),e⟩) (fun c W hk ⟨e,h1⟩=>⟨h1,AW e,aDu hT (aDs hk (aDt _ _) (aDl _) (fun _ h=>h.elim))⟩)),
  trivial⟩) ?_
 rintro g5 w5 k5 ⟨s11,-⟩ ⟨o2,o3,-⟩ -
 have s3:g5 3=zi (dD s):=o3.trans rfl
 have hB:=hB.below k5
 have m6:=m4.below k5
 exact rg (bI s3 (aW (zi (dD s)) rfl (nx (aE (fO rfl ⟨m6,.inl ⟨_,rfl,rfl,s11,hB⟩⟩)))))
theorem rE (rb) (s:Option ByteArray) (w) (hB:dJ rb s w) (ho:bM s):gB (·=rb) 43 [.agg [pt rb 0].toArray] w (fun v W=>v=.string (jG 20000 s)/\(aH 20000 s).isSome=true/\dJ rb (aH 20000 s) W) (fun c _=>c=gK/\(aH 20000 s)=none):=by
 refine aJ (n:=13) func43 rfl ntmps43 (aA1 rfl) (rg (cO (cs:=[pt rb (0)]) rfl rfl fun w1 B1 k1 z1 =>?_))
 have hnx:w.heap.size≠rb:=by have:=aEf hB;omega
 have nhB_B1:=aC8 hB.lt
 have lkB1_w:=aDl w.heap.size
 have hB:=hB.below k1
 have m2:KM (·=rb) w w1:=aDr k1
 refine bU (nx (rg (sq (qR rfl) (sq (uG rfl (B1.cell 0 rfl)) (rG (fst:=[]) (caps:=[]) VQ rfl (dZ (a2 rfl rfl)) (FP rb 20000 s _ hB ho) ?_)))))
 rintro v3 w3 k3 ⟨rfl,hB⟩
 have B1:=B1.km k3 (fun e=>hnx e)
 have m4:=m2.next k3 (fun i (hi:i=rb)=>.inl hi)
 refine aW (.string (jG 20000 s)) rfl (nx ?_)
 have hrbw:=hB.lt
 refine CP (fun c W=>c=gK/\(aH 20000 s)=none/\Below w3.heap.size w3 W) (lG (V:=_::_::_::(vE (.bool (aH 20000 s).isSome))::(fun _ _=>(aH 20000 s).isSome=true)::[]) rfl ⟨aA,aA,aA,aA,VV,trivial⟩) [(4,11)] [2,3] (by kernel_rfl) rfl rfl trivial (fun c g W ⟨e,hn,hb⟩=>And.intro rfl (And.intro ((m4).below hb) (Or.inr (Exists.intro c (And.intro rfl (And.intro e hn)))))) (fun Sd=>⟨
  iG 1 Sd rfl fun hT q=>dV q ((B1.below hT).range) rfl,
  jA 1 Sd rfl fun q=>qR q,
  fY [1] Sd rfl fun hT h=>uG h.1 ((B1.below hT).cell 0 rfl),
  oW [(2,9)] [] Sd rfl fun _ _ hT h _=>gV (a1 h.1) yQ (lM rb (aH 20000 s) _ (aD3 hB hT)),
  ow [(0,7),(3,10)] [] Sd rfl rfl rfl (by rintro g1 w1 hT ⟨h0,h3,-⟩ -;exact mZ (fst:=[]) (caps:=[]) rfl (dZ (a2 h0 h3)) Ln (tD rb _ w1) (fun v W hk e=>⟨aDs hk (aDt _ _) (aDl _) (fun _ h=>h.elim),e⟩) (fun c W hk ⟨e,h1⟩=>⟨h1,AW e,aDu hT (aDs hk (aDt _ _) (aDl _) (fun _ h=>h.elim))⟩)),
  trivial⟩) ?_
 rintro g5 w5 k5 ⟨s11,-⟩ ⟨o2,o3,-⟩ -
 have s3:g5 3=.string (jG 20000 s):=o3.trans rfl
 have hB:=hB.below k5
 have m6:=m4.below k5
 exact rg (bI s3 (aW (.string (jG 20000 s)) rfl (nx (aE (fO rfl ⟨m6,.inl ⟨_,rfl,rfl,s11,hB⟩⟩)))))
theorem wY (rb) (s:Option ByteArray) (w) (hB:dJ rb s w) (ho:bM s):gB (·=rb) 50 [.agg [pt rb 0].toArray] w (fun v W=>v=.bool (iM s)/\(aQ s).isSome=true/\dJ rb (aQ s) W) (fun c _=>c=gK/\(aQ s)=none):=by
 refine aJ (n:=13) func50 rfl ntmps50 (aA1 rfl) (rg (cO (cs:=[pt rb (0)]) rfl rfl fun w1 B1 k1 z1 =>?_))
 have hnx:w.heap.size≠rb:=by have:=aEf hB;omega
 have nhB_B1:=aC8 hB.lt
 have lkB1_w:=aDl w.heap.size
 have hB:=hB.below k1
 have m2:KM (·=rb) w w1:=aDr k1
 refine bU (nx (rg (sq (qR rfl) (sq (uG rfl (B1.cell 0 rfl)) (rG (fst:=[]) (caps:=[]) Wl rfl (dZ (a1 rfl)) (GN rb s _ hB ho) ?_)))))
 rintro v3 w3 k3 ⟨rfl,hB⟩
 have B1:=B1.km k3 (fun e=>hnx e)
 have m4:=m2.next k3 (fun i (hi:i=rb)=>.inl hi)
 refine aW (.bool (iM s)) rfl (nx ?_)
 have hrbw:=hB.lt
 refine CP (fun c W=>c=gK/\(aQ s)=none/\Below w3.heap.size w3 W) (lG (V:=_::_::_::(vE (.bool (aQ s).isSome))::(fun _ _=>(aQ s).isSome=true)::[]) rfl ⟨aA,aA,aA,aA,VV,trivial⟩) [(4,11)] [2,3] (by kernel_rfl) rfl rfl trivial (fun c g W ⟨e,hn,hb⟩=>And.intro rfl (And.intro ((m4).below hb) (Or.inr (Exists.intro c (And.intro rfl (And.intro e hn)))))) (fun Sd=>⟨
  iG 1 Sd rfl fun hT q=>dV q ((B1.below hT).range) rfl,
  jA 1 Sd rfl fun q=>qR q,
  fY [1] Sd rfl fun hT h=>uG h.1 ((B1.below hT).cell 0 rfl),
  oW [(2,9)] [] Sd rfl fun _ _ hT h _=>gV (a1 h.1) yQ (lM rb (aQ s) _ (aD3 hB hT)),
  ow [(0,7),(3,10)] [] Sd rfl rfl rfl (by rintro g1 w1 hT ⟨h0,h3,-⟩ -;exact mZ (fst:=[]) (caps:=[]) rfl (dZ (a2 h0 h3)) Ln (tD rb _ w1) (fun v W hk e=>⟨aDs hk (aDt _ _) (aDl _) (fun _ h=>h.elim),e⟩) (fun c W hk ⟨e,h1⟩=>⟨h1,AW e,aDu hT (aDs hk (aDt _ _) (aDl _) (fun _ h=>h.elim))⟩)),
  trivial⟩) ?_
 rintro g5 w5 k5 ⟨s11,-⟩ ⟨o2,o3,-⟩ -
 have s3:g5 3=.bool (iM s):=o3.trans rfl
 have hB:=hB.below k5
 have m6:=m4.below k5
 exact rg (bI s3 (aW (.bool (iM s)) rfl (nx (aE (fO rfl ⟨m6,.inl ⟨_,rfl,rfl,s11,hB⟩⟩)))))
theorem tY {g:Nat->Value} {R:Ending->World->Prop} (hr:(results fn (fr n [] g).tmps).run prog w=.ok v w) (h:R (.returned v) w):bodyPost prog fn R .ret (fr n [] g) w:=⟨rfl,v,hr,h⟩
theorem xY {g:Nat->Value} {ty:TypeId} {a1:Int} {a2:Int} (h0:ev n g x0=zi a1) (h1:ev n g x1=zi a2):aL n g ⟨dd,.build 112 #[(0,x0),(1,x1)],ty,pos,aft,gd⟩ w (.agg [zi a1,zi a2].toArray):=
 iA (ps:=[(0,x0),(1,x1)]) (by simp only [aC3,aDb,h0,h1];kernel_rfl)
theorem BP {n:Nat} {g:Nat->Value} {w:World} {dd:Option Tmp} {ty:TypeId} {pos:String} {aft:Array Edge} {gd:Option (Nat × Bool)} {x0 x1:Operand} {a1:ByteArray} {a2:Int} (h0:ev n g x0=.string a1) (h1:ev n g x1=zi a2):aL n g ⟨dd,.build 119 #[(0,x0),(1,x1)],ty,pos,aft,gd⟩ w (.agg [.string a1,zi a2].toArray):=
 iA (ps:=[(0,x0),(1,x1)]) (by simp only [aC3,aDb,h0,h1];kernel_rfl)
theorem iU {g:Nat->Value} {ty:TypeId} {a1:Int} {a2:Bool} {a3:Int} {a4:Int} {a5:Int} {a6:Int} (h0:ev n g x0=zi a1) (h1:ev n g x1=.bool a2) (h2:ev n g x2=zi a3) (h3:ev n g x3=zi a4) (h4:ev n g x4=zi a5) (h5:ev n g x5=zi a6):aL n g ⟨dd,.build 124 #[(0,x0),(1,x1),(2,x2),(3,x3),(4,x4),(5,x5)],ty,pos,aft,gd⟩ w (.agg [zi a1,.bool a2,zi a3,zi a4,zi a5,zi a6].toArray):=
 iA (ps:=[(0,x0),(1,x1),(2,x2),(3,x3),(4,x4),(5,x5)]) (by simp only [aC3,aDb,h0,h1,h2,h3,h4,h5];kernel_rfl)
theorem xE {g:Nat->Value} {ty:TypeId} {a1:Bool} {a2:Bool} {a3:Int} (h0:ev n g x0=.bool a1) (h1:ev n g x1=.bool a2) (h2:ev n g x2=zi a3):aL n g ⟨dd,.build 128 #[(0,x0),(1,x1),(2,x2)],ty,pos,aft,gd⟩ w (.agg [.bool a1,.bool a2,zi a3].toArray):=
 iA (ps:=[(0,x0),(1,x1),(2,x2)]) (by simp only [aC3,aDb,h0,h1,h2];kernel_rfl)
theorem BN {n:Nat} {g:Nat->Value} {w:World} {dd:Option Tmp} {ty:TypeId} {pos:String} {aft:Array Edge} {gd:Option (Nat × Bool)} {x0 x1:Operand} {a1:ByteArray} {a2:Int} (h0:ev n g x0=.string a1) (h1:ev n g x1=zi a2):aL n g ⟨dd,.build 132 #[(0,x0),(1,x1)],ty,pos,aft,gd⟩ w (.agg [.string a1,zi a2].toArray):=
 iA (ps:=[(0,x0),(1,x1)]) (by simp only [aC3,aDb,h0,h1];kernel_rfl)
theorem iB {g:Nat->Value} {ty:TypeId} {a1:Int} {a2:Int} {a3:Int} {a4:Int} {a5:Int} {a6:Int} (h0:ev n g x0=zi a1) (h1:ev n g x1=zi a2) (h2:ev n g x2=zi a3) (h3:ev n g x3=zi a4) (h4:ev n g x4=zi a5) (h5:ev n g x5=zi a6):aL n g ⟨dd,.build 136 #[(0,x0),(1,x1),(2,x2),(3,x3),(4,x4),(5,x5)],ty,pos,aft,gd⟩ w (.agg [zi a1,zi a2,zi a3,zi a4,zi a5,zi a6].toArray):=
 iA (ps:=[(0,x0),(1,x1),(2,x2),(3,x3),(4,x4),(5,x5)]) (by simp only [aC3,aDb,h0,h1,h2,h3,h4,h5];kernel_rfl)
theorem qF {g:Nat->Value} {ty:TypeId} {a1:Int} {a2:Int} {a3:Int} (h0:ev n g x0=zi a1) (h1:ev n g x1=zi a2) (h2:ev n g x2=zi a3):aL n g ⟨dd,.build 138 #[(0,x0),(1,x1),(2,x2)],ty,pos,aft,gd⟩ w (.agg [zi a1,zi a2,zi a3].toArray):=
 iA (ps:=[(0,x0),(1,x1),(2,x2)]) (by simp only [aC3,aDb,h0,h1,h2];kernel_rfl)
theorem eV {g:Nat->Value} {ty:TypeId} {a1:Int} {a2:Int} {a3:Int} {a4:Int} {a5:Int} {a6:Int} {a7:Int} {a8:Int} {a9:Int} {a10:Int} {a11:Int} (h0:ev n g x0=zi a1) (h1:ev n g x1=zi a2) (h2:ev n g x2=.agg [zi a3,zi a4,zi a5,zi a6,zi a7,zi a8].toArray) (h3:ev n g x3=.agg [zi a9,zi a10,zi a11].toArray):aL n g ⟨dd,.build 140 #[(0,x0),(1,x1),(2,x2),(3,x3)],ty,pos,aft,gd⟩ w (.agg [zi a1,zi a2,zi a3,zi a4,zi a5,zi a6,zi a7,zi a8,zi a9,zi a10,zi a11].toArray):=
 iA (ps:=[(0,x0),(1,x1),(2,x2),(3,x3)]) (by simp only [aC3,aDb,h0,h1,h2,h3];kernel_rfl)
def Oh (s:Option ByteArray):aK:=⟨dD s,dD (aB s)⟩
def nP (s:Option ByteArray):Option ByteArray:=aB (aB s)
theorem WB (rb) (s:Option ByteArray) (w) (hB:dJ rb s w) (ho:bM s):gB (·=rb) 54 [.agg [pt rb 0].toArray] w (fun v W=>v=.agg (aK.cells (Oh s)).toArray/\(nP s).isSome=true/\dJ rb (nP s) W) (fun c _=>c=gK/\nP s=none):=by
 refine aJ (n:=8) func54 rfl ntmps54 (aA1 rfl) (rg (cO (cs:=[pt rb (0)]) rfl rfl fun w1 B1 k1 z1 =>?_))
 have hnrB1:w.heap.size≠rb:=by have:=aEf hB;have:=(aD8 (fun _=>False) w).size;omega
 have nhB_B1:=aC8 hB.lt
 have lkB1_w:=aDl w.heap.size
 have hB:=hB.below k1
 have m2:KM (·=rb) w w1:=aDr k1
 refine eA (cs:=[aV,aV]) zeroValue112 rfl fun w3 B3 k3 z3 =>?_
 have hnrB3:w1.heap.size≠rb:=by have:=aEf hB;have:=m2.size;omega
 have nhB_B3:=aC8 hB.lt
 have nB1_B3:=aC8 B1.lt
 have lkB3_w:=m2.size
 have hB:=hB.below k3
 have B1:=B1.below k3
 have m4:=m2.below k3
 refine nx ?_
 have hrbw:=hB.lt
 refine EY 5 (fun c W=>c=gK/\KM (·=rb) w3 W/\nP s=none) (eE (V:=_::(vE (zi (dD s)))::_::(vE (zi (dD (aB s))))::_::[]) (M:=fun i=>i=rb) (ch:=[1,3]) (L:=[(fun W=>dJ rb s W),(fun W=>(aB s).isSome=true/\dJ rb (aB s) W),(fun W=>(aB (aB s)).isSome=true/\dJ rb (aB (aB s)) W)]) rfl ⟨aC,aC,aC,aC,aC,trivial⟩ rfl rfl rfl (by intro P hP a b h k;simp only [aC0,aBy,or_false] at hP;rcases hP with rfl | rfl | rfl;exact aD3 h k;exact ⟨h.1,aD3 h.2 k⟩;exact ⟨h.1,aD3 h.2 k⟩)) [(4,7)] [2] rfl (by kernel_rfl) rfl rfl rfl rfl rfl hB (fun c g W ⟨e,hk,hn⟩=>And.intro rfl (And.intro ((m4).trans hk) (Or.inr (Exists.intro c (And.intro rfl (And.intro e hn)))))) (fun Sd=>⟨
  iG 1 Sd rfl fun hT q=>dV q ((B1.km hT (fun e=>hnrB1 e)).range) rfl,
  oc 0 [(0,3)] [] rfl rfl rfl (by rintro g1 w1 hT ⟨h0,-⟩ - hB0;exact mZ (fst:=[]) (caps:=[]) rfl (dZ (a1 h0)) kB (eC rb s w1 hB0 ho) (fun v W hk ⟨e,h1,h2⟩=>And.intro hk (And.intro e (And.intro h1 h2))) (fun c W hk ⟨e,h1⟩=>⟨e,aD4 hT hk,by unfold nP;rw [h1] <;> rfl⟩)),
  iG 1 Sd rfl fun hT q=>dV q ((B1.km hT (fun e=>hnrB1 e)).range) rfl,
  oc 1 [(2,5)] [] rfl rfl rfl (by rintro g1 w1 hT ⟨h2,-⟩ - ⟨hs0,hB0⟩;exact mZ (fst:=[]) (caps:=[]) rfl (dZ (a1 h2)) kB (eC rb (aB s) w1 hB0 (ho).rd) (fun v W hk ⟨e,h1,h2⟩=>And.intro hk (And.intro e (And.intro h1 h2))) (fun c W hk ⟨e,h1⟩=>⟨e,aD4 hT hk,by unfold nP;rw [h1] <;> rfl⟩)),
  aP [1,3] Sd rfl fun h=>xY h.1 h.2.1,
  trivial⟩) ?_
 rintro g5 w5 k5 ⟨s7,-⟩ ⟨o2,-⟩ ⟨hs5,hB5⟩ Kq hK
 have s2:g5 2=pt w1.heap.size (0):=o2.trans rfl
 have B3:=B3.km k5 (fun e=>hnrB3 e)
 have m6:=m4.next k5 (fun i (hi:i=rb)=>.inl hi)
 refine kI (vs:=[zi (dD s),zi (dD (aB s))]) B3 sizeOf112 s2 s7 rfl rfl fun w7 B3n O7 z7 =>?_
 replace B3:=B3n
 have hB5:=hB5.only O7 nhB_B3
 have m8:=m6.only O7 (.inr lkB3_w)
 exact hK _ _ (aE (tY (rW rfl s2 (vZ (cs:=aK.cells (Oh s)) isAgg112 sizeOf112 B3)) ⟨m8,.inl ⟨_,rfl,rfl,hs5,hB5⟩⟩))
def RJ (s:Option ByteArray):jC:=⟨jG 20000 s,dD (aH 20000 s)⟩
def Ag (s:Option ByteArray):Option ByteArray:=aB (aH 20000 s)
theorem WR (rb) (s:Option ByteArray) (w) (bx) (hX:Bk bx [pt rb 0] 57 w) (hxr:bx≠rb) (hB:dJ rb s w) (ho:bM s):gB (·=rb) 59 [pt bx 0] w (fun v W=>v=.agg (jC.cells (RJ s)).toArray/\(Ag s).isSome=true/\dJ rb (Ag s) W) (fun c _=>c=gK/\Ag s=none):=by
 refine aJ (n:=7) func59 rfl ntmps59 (aA1 rfl) (rg (eA (cs:=[.string (⟨#[]⟩),aV]) zeroValue119 rfl fun w1 B1 k1 z1 =>?_))
 have hnrB1:w.heap.size≠rb:=by have:=aEf hB;have:=(aD8 (fun _=>False) w).size;omega
 have nhB_B1:=aC8 hB.lt
 have nhX_B1:=aC8 hX.lt
 have lkB1_w:=aDl w.heap.size
 have hB:=hB.below k1
 have hX:=hX.below k1
 have m2:KM (·=rb) w w1:=aDr k1
 refine nx ?_
 have hrbw:=hB.lt
 refine EY 5 (fun c W=>c=gK/\KM (·=rb) w1 W/\Ag s=none) (eE (V:=_::(vE (.string (jG 20000 s)))::_::(vE (zi (dD (aH 20000 s))))::_::[]) (M:=fun i=>i=rb) (ch:=[1,3]) (L:=[(fun W=>dJ rb s W),(fun W=>(aH 20000 s).isSome=true/\dJ rb (aH 20000 s) W),(fun W=>(aB (aH 20000 s)).isSome=true/\dJ rb (aB (aH 20000 s)) W)]) rfl ⟨aC,aC,aC,aC,aC,trivial⟩ rfl rfl rfl (by intro P hP a b h k;simp only [aC0,aBy,or_false] at hP;rcases hP with rfl | rfl | rfl;exact aD3 h k;exact ⟨h.1,aD3 h.2 k⟩;exact ⟨h.1,aD3 h.2 k⟩)) [(4,6)] [1] rfl (by kernel_rfl) rfl rfl rfl rfl rfl hB (fun c g W ⟨e,hk,hn⟩=>And.intro rfl (And.intro ((m2).trans hk) (Or.inr (Exists.intro c (And.intro rfl (And.intro e hn)))))) (fun Sd=>⟨
  iG 0 Sd rfl fun hT q=>dV q ((hX.km hT (fun e=>hxr e)).range) rfl,
  oc 0 [(0,2)] [] rfl rfl rfl (by rintro g1 w1 hT ⟨h0,-⟩ - hB0;exact mZ (fst:=[]) (caps:=[]) rfl (dZ (a1 h0)) Jl (rE rb s w1 hB0 ho) (fun v W hk ⟨e,h1,h2⟩=>And.intro hk (And.intro e (And.intro h1 h2))) (fun c W hk ⟨e,h1⟩=>⟨e,aD4 hT hk,by unfold Ag;rw [h1] <;> rfl⟩)),
  iG 0 Sd rfl fun hT q=>dV q ((hX.km hT (fun e=>hxr e)).range) rfl,
  oc 1 [(2,4)] [] rfl rfl rfl (by rintro g1 w1 hT ⟨h2,-⟩ - ⟨hs0,hB0⟩;exact mZ (fst:=[]) (caps:=[]) rfl (dZ (a1 h2)) kB (eC rb (aH 20000 s) w1 hB0 (ho).rdT) (fun v W hk ⟨e,h1,h2⟩=>And.intro hk (And.intro e (And.intro h1 h2))) (fun c W hk ⟨e,h1⟩=>⟨e,aD4 hT hk,by unfold Ag;rw [h1] <;> rfl⟩)),
  aP [1,3] Sd rfl fun h=>BP h.1 h.2.1,
  trivial⟩) ?_
 rintro g3 w3 k3 ⟨s6,-⟩ ⟨o1,-⟩ ⟨hs3,hB3⟩ Kq hK
 have s1:g3 1=pt w.heap.size (0):=o1.trans rfl
 have B1:=B1.km k3 (fun e=>hnrB1 e)
 have m4:=m2.next k3 (fun i (hi:i=rb)=>.inl hi)
 refine kI (vs:=[.string (jG 20000 s),zi (dD (aH 20000 s))]) B1 sizeOf119 s1 s6 rfl rfl fun w5 B1n O5 z5 =>?_
 replace B1:=B1n
 have hB3:=hB3.only O5 nhB_B1
 have m6:=m4.only O5 (.inr lkB1_w)
 exact hK _ _ (aE (tY (rW rfl s1 (vZ (cs:=jC.cells (RJ s)) isAgg119 sizeOf119 B1)) ⟨m6,.inl ⟨_,rfl,rfl,hs3,hB3⟩⟩))
def DF (s:Option ByteArray):eL:=⟨dD s,iM (aB s),dD (aQ (aB s)),dD (aB (aQ (aB s))),dD (aB (aB (aQ (aB s)))),dD (aB (aB (aB (aQ (aB s)))))⟩
def lB (s:Option ByteArray):Option ByteArray:=aB (aB (aB (aB (aQ (aB s)))))
theorem TH (rb) (s:Option ByteArray) (w) (bx) (hX:Bk bx [pt rb 0] 57 w) (hxr:bx≠rb) (hB:dJ rb s w) (ho:bM s):gB (·=rb) 61 [pt bx 0] w (fun v W=>v=.agg (eL.cells (DF s)).toArray/\(lB s).isSome=true/\dJ rb (lB s) W) (fun c _=>c=gK/\lB s=none):=by
 refine aJ (n:=15) func61 rfl ntmps61 (aA1 rfl) (rg (eA (cs:=[aV,.bool false,aV,aV,aV,aV]) zeroValue124 rfl fun w1 B1 k1 z1 =>?_))
 have hnrB1:w.heap.size≠rb:=by have:=aEf hB;have:=(aD8 (fun _=>False) w).size;omega
 have nhB_B1:=aC8 hB.lt
 have nhX_B1:=aC8 hX.lt
 have lkB1_w:=aDl w.heap.size
 have hB:=hB.below k1
 have hX:=hX.below k1
 have m2:KM (·=rb) w w1:=aDr k1
 refine nx ?_
 have hrbw:=hB.lt
 refine EY 13 (fun c W=>c=gK/\KM (·=rb) w1 W/\lB s=none) (eE (V:=_::(vE (zi (dD s)))::_::(vE (.bool (iM (aB s))))::_::(vE (zi (dD (aQ (aB s)))))::_::(vE (zi (dD (aB (aQ (aB s))))))::_::(vE (zi (dD (aB (aB (aQ (aB s)))))))::_::(vE (zi (dD (aB (aB (aB (aQ (aB s))))))))::_::[]) (M:=fun i=>i=rb) (ch:=[1,3,5,7,9,11]) (L:=[(fun W=>dJ rb s W),(fun W=>(aB s).isSome=true/\dJ rb (aB s) W),(fun W=>(aQ (aB s)).isSome=true/\dJ rb (aQ (aB s)) W),(fun W=>(aB (aQ (aB s))).isSome=true/\dJ rb (aB (aQ (aB s))) W),(fun W=>(aB (aB (aQ (aB s)))).isSome=true/\dJ rb (aB (aB (aQ (aB s)))) W),(fun W=>(aB (aB (aB (aQ (aB s))))).isSome=true/\dJ rb (aB (aB (aB (aQ (aB s))))) W),(fun W=>(aB (aB (aB (aB (aQ (aB s)))))).isSome=true/\dJ rb (aB (aB (aB (aB (aQ (aB s)))))) W)]) rfl ⟨aC,aC,aC,aC,aC,aC,aC,aC,aC,aC,aC,aC,aC,trivial⟩ rfl rfl rfl (by intro P hP a b h k;simp only [aC0,aBy,or_false] at hP;rcases hP with rfl | rfl | rfl | rfl | rfl | rfl | rfl;exact aD3 h k;exact ⟨h.1,aD3 h.2 k⟩;exact ⟨h.1,aD3 h.2 k⟩;exact ⟨h.1,aD3 h.2 k⟩;exact ⟨h.1,aD3 h.2 k⟩;exact ⟨h.1,aD3 h.2 k⟩;exact ⟨h.1,aD3 h.2 k⟩)) [(12,14)] [1] rfl (by kernel_rfl) rfl rfl rfl rfl rfl hB (fun c g W ⟨e,hk,hn⟩=>And.intro rfl (And.intro ((m2).trans hk) (Or.inr (Exists.intro c (And.intro rfl (And.intro e hn)))))) (fun Sd=>⟨
  iG 0 Sd rfl fun hT q=>dV q ((hX.km hT (fun e=>hxr e)).range) rfl,
  oc 0 [(0,2)] [] rfl rfl rfl (by rintro g1 w1 hT ⟨h0,-⟩ - hB0;exact mZ (fst:=[]) (caps:=[]) rfl (dZ (a1 h0)) kB (eC rb s w1 hB0 ho) (fun v W hk ⟨e,h1,h2⟩=>And.intro hk (And.intro e (And.intro h1 h2))) (fun c W hk ⟨e,h1⟩=>⟨e,aD4 hT hk,by unfold lB;rw [h1] <;> rfl⟩)),
  iG 0 Sd rfl fun hT q=>dV q ((hX.km hT (fun e=>hxr e)).range) rfl,
  oc 1 [(2,4)] [] rfl rfl rfl (by rintro g1 w1 hT ⟨h2,-⟩ - ⟨hs0,hB0⟩;exact mZ (fst:=[]) (caps:=[]) rfl (dZ (a1 h2)) EU (wY rb (aB s) w1 hB0 (ho).rd) (fun v W hk ⟨e,h1,h2⟩=>And.intro hk (And.intro e (And.intro h1 h2))) (fun c W hk ⟨e,h1⟩=>⟨e,aD4 hT hk,by unfold lB;rw [h1] <;> rfl⟩)),
  iG 0 Sd rfl fun hT q=>dV q ((hX.km hT (fun e=>hxr e)).range) rfl,
  oc 2 [(4,6)] [] rfl rfl rfl (by rintro g1 w1 hT ⟨h4,-⟩ - ⟨hs0,hB0⟩;exact mZ (fst:=[]) (caps:=[]) rfl (dZ (a1 h4)) kB (eC rb (aQ (aB s)) w1 hB0 ((ho).rd).rdF) (fun v W hk ⟨e,h1,h2⟩=>And.intro hk (And.intro e (And.intro h1 h2))) (fun c W hk ⟨e,h1⟩=>⟨e,aD4 hT hk,by unfold lB;rw [h1] <;> rfl⟩)),
  iG 0 Sd rfl fun hT q=>dV q ((hX.km hT (fun e=>hxr e)).range) rfl,
  oc 3 [(6,8)] [] rfl rfl rfl (by rintro g1 w1 hT ⟨h6,-⟩ - ⟨hs0,hB0⟩;exact mZ (fst:=[]) (caps:=[]) rfl (dZ (a1 h6)) kB (eC rb (aB (aQ (aB s))) w1 hB0 (((ho).rd).rdF).rd) (fun v W hk ⟨e,h1,h2⟩=>And.intro hk (And.intro e (And.intro h1 h2))) (fun c W hk ⟨e,h1⟩=>⟨e,aD4 hT hk,by unfold lB;rw [h1] <;> rfl⟩)),
  iG 0 Sd rfl fun hT q=>dV q ((hX.km hT (fun e=>hxr e)).range) rfl,
  oc 4 [(8,10)] [] rfl rfl rfl (by rintro g1 w1 hT ⟨h8,-⟩ - ⟨hs0,hB0⟩;exact mZ (fst:=[]) (caps:=[]) rfl (dZ (a1 h8)) kB (eC rb (aB (aB (aQ (aB s)))) w1 hB0 ((((ho).rd).rdF).rd).rd) (fun v W hk ⟨e,h1,h2⟩=>And.intro hk (And.intro e (And.intro h1 h2))) (fun c W hk ⟨e,h1⟩=>⟨e,aD4 hT hk,by unfold lB;rw [h1] <;> rfl⟩)),
  iG 0 Sd rfl fun hT q=>dV q ((hX.km hT (fun e=>hxr e)).range) rfl,
  oc 5 [(10,12)] [] rfl rfl rfl (by rintro g1 w1 hT ⟨h10,-⟩ - ⟨hs0,hB0⟩;exact mZ (fst:=[]) (caps:=[]) rfl (dZ (a1 h10)) kB (eC rb (aB (aB (aB (aQ (aB s))))) w1 hB0 (((((ho).rd).rdF).rd).rd).rd) (fun v W hk ⟨e,h1,h2⟩=>And.intro hk (And.intro e (And.intro h1 h2))) (fun c W hk ⟨e,h1⟩=>⟨e,aD4 hT hk,by unfold lB;rw [h1] <;> rfl⟩)),
  aP [1,3,5,7,9,11] Sd rfl fun h=>iU h.1 h.2.1 h.2.2.1 h.2.2.2.1 h.2.2.2.2.1 h.2.2.2.2.2.1,
  trivial⟩) ?_
 rintro g3 w3 k3 ⟨s14,-⟩ ⟨o1,-⟩ ⟨hs3,hB3⟩ Kq hK
 have s1:g3 1=pt w.heap.size (0):=o1.trans rfl
 have B1:=B1.km k3 (fun e=>hnrB1 e)
 have m4:=m2.next k3 (fun i (hi:i=rb)=>.inl hi)
 refine kI (vs:=[zi (dD s),.bool (iM (aB s)),zi (dD (aQ (aB s))),zi (dD (aB (aQ (aB s)))),zi (dD (aB (aB (aQ (aB s))))),zi (dD (aB (aB (aB (aQ (aB s))))))]) B1 sizeOf124 s1 s14 rfl rfl fun w5 B1n O5 z5 =>?_
 replace B1:=B1n
 have hB3:=hB3.only O5 nhB_B1
 have m6:=m4.only O5 (.inr lkB1_w)
 exact hK _ _ (aE (tY (rW rfl s1 (vZ (cs:=eL.cells (DF s)) isAgg124 sizeOf124 B1)) ⟨m6,.inl ⟨_,rfl,rfl,hs3,hB3⟩⟩))
def CH (s:Option ByteArray):cN:=⟨iM s,iM (aQ s),dD (aQ (aQ s))⟩
def kX (s:Option ByteArray):Option ByteArray:=aB (aQ (aQ s))
theorem Vu (rb) (s:Option ByteArray) (w) (bx) (hX:Bk bx [pt rb 0] 57 w) (hxr:bx≠rb) (hB:dJ rb s w) (ho:bM s):gB (·=rb) 63 [pt bx 0] w (fun v W=>v=.agg (cN.cells (CH s)).toArray/\(kX s).isSome=true/\dJ rb (kX s) W) (fun c _=>c=gK/\kX s=none):=by
 refine aJ (n:=9) func63 rfl ntmps63 (aA1 rfl) (rg (eA (cs:=[.bool false,.bool false,aV]) zeroValue128 rfl fun w1 B1 k1 z1 =>?_))
 have hnrB1:w.heap.size≠rb:=by have:=aEf hB;have:=(aD8 (fun _=>False) w).size;omega
 have nhB_B1:=aC8 hB.lt
 have nhX_B1:=aC8 hX.lt
 have lkB1_w:=aDl w.heap.size
 have hB:=hB.below k1
 have hX:=hX.below k1
 have m2:KM (·=rb) w w1:=aDr k1
 refine nx ?_
 have hrbw:=hB.lt
 refine EY 7 (fun c W=>c=gK/\KM (·=rb) w1 W/\kX s=none) (eE (V:=_::(vE (.bool (iM s)))::_::(vE (.bool (iM (aQ s))))::_::(vE (zi (dD (aQ (aQ s)))))::_::[]) (M:=fun i=>i=rb) (ch:=[1,3,5]) (L:=[(fun W=>dJ rb s W),(fun W=>(aQ s).isSome=true/\dJ rb (aQ s) W),(fun W=>(aQ (aQ s)).isSome=true/\dJ rb (aQ (aQ s)) W),(fun W=>(aB (aQ (aQ s))).isSome=true/\dJ rb (aB (aQ (aQ s))) W)]) rfl ⟨aC,aC,aC,aC,aC,aC,aC,trivial⟩ rfl rfl rfl (by intro P hP a b h k;simp only [aC0,aBy,or_false] at hP;rcases hP with rfl | rfl | rfl | rfl;exact aD3 h k;exact ⟨h.1,aD3 h.2 k⟩;exact ⟨h.1,aD3 h.2 k⟩;exact ⟨h.1,aD3 h.2 k⟩)) [(6,8)] [1] rfl (by kernel_rfl) rfl rfl rfl rfl rfl hB (fun c g W ⟨e,hk,hn⟩=>And.intro rfl (And.intro ((m2).trans hk) (Or.inr (Exists.intro c (And.intro rfl (And.intro e hn)))))) (fun Sd=>⟨
  iG 0 Sd rfl fun hT q=>dV q ((hX.km hT (fun e=>hxr e)).range) rfl,
  oc 0 [(0,2)] [] rfl rfl rfl (by rintro g1 w1 hT ⟨h0,-⟩ - hB0;exact mZ (fst:=[]) (caps:=[]) rfl (dZ (a1 h0)) EU (wY rb s w1 hB0 ho) (fun v W hk ⟨e,h1,h2⟩=>And.intro hk (And.intro e (And.intro h1 h2))) (fun c W hk ⟨e,h1⟩=>⟨e,aD4 hT hk,by unfold kX;rw [h1] <;> rfl⟩)),
  iG 0 Sd rfl fun hT q=>dV q ((hX.km hT (fun e=>hxr e)).range) rfl,
  oc 1 [(2,4)] [] rfl rfl rfl (by rintro g1 w1 hT ⟨h2,-⟩ - ⟨hs0,hB0⟩;exact mZ (fst:=[]) (caps:=[]) rfl (dZ (a1 h2)) EU (wY rb (aQ s) w1 hB0 (ho).rdF) (fun v W hk ⟨e,h1,h2⟩=>And.intro hk (And.intro e (And.intro h1 h2))) (fun c W hk ⟨e,h1⟩=>⟨e,aD4 hT hk,by unfold kX;rw [h1] <;> rfl⟩)),
  iG 0 Sd rfl fun hT q=>dV q ((hX.km hT (fun e=>hxr e)).range) rfl,
  oc 2 [(4,6)] [] rfl rfl rfl (by rintro g1 w1 hT ⟨h4,-⟩ - ⟨hs0,hB0⟩;exact mZ (fst:=[]) (caps:=[]) rfl (dZ (a1 h4)) kB (eC rb (aQ (aQ s)) w1 hB0 ((ho).rdF).rdF) (fun v W hk ⟨e,h1,h2⟩=>And.intro hk (And.intro e (And.intro h1 h2))) (fun c W hk ⟨e,h1⟩=>⟨e,aD4 hT hk,by unfold kX;rw [h1] <;> rfl⟩)),
  aP [1,3,5] Sd rfl fun h=>xE h.1 h.2.1 h.2.2.1,
  trivial⟩) ?_
 rintro g3 w3 k3 ⟨s8,-⟩ ⟨o1,-⟩ ⟨hs3,hB3⟩ Kq hK
 have s1:g3 1=pt w.heap.size (0):=o1.trans rfl
 have B1:=B1.km k3 (fun e=>hnrB1 e)
 have m4:=m2.next k3 (fun i (hi:i=rb)=>.inl hi)
 refine kI (vs:=[.bool (iM s),.bool (iM (aQ s)),zi (dD (aQ (aQ s)))]) B1 sizeOf128 s1 s8 rfl rfl fun w5 B1n O5 z5 =>?_
 replace B1:=B1n
 have hB3:=hB3.only O5 nhB_B1
 have m6:=m4.only O5 (.inr lkB1_w)
 exact hK _ _ (aE (tY (rW rfl s1 (vZ (cs:=cN.cells (CH s)) isAgg128 sizeOf128 B1)) ⟨m6,.inl ⟨_,rfl,rfl,hs3,hB3⟩⟩))
def zQ (s:Option ByteArray):dQ:=⟨jG 20000 s,dD (aH 20000 s)⟩
def jL (s:Option ByteArray):Option ByteArray:=aB (aH 20000 s)
theorem Ri (rb) (s:Option ByteArray) (w) (bx) (hX:Bk bx [pt rb 0] 57 w) (hxr:bx≠rb) (hB:dJ rb s w) (ho:bM s):gB (·=rb) 65 [pt bx 0] w (fun v W=>v=.agg (dQ.cells (zQ s)).toArray/\(jL s).isSome=true/\dJ rb (jL s) W) (fun c _=>c=gK/\jL s=none):=by
 refine aJ (n:=7) func65 rfl ntmps65 (aA1 rfl) (rg (eA (cs:=[.string (⟨#[]⟩),aV]) zeroValue132 rfl fun w1 B1 k1 z1 =>?_))
 have hnrB1:w.heap.size≠rb:=by have:=aEf hB;have:=(aD8 (fun _=>False) w).size;omega
 have nhB_B1:=aC8 hB.lt
 have nhX_B1:=aC8 hX.lt
 have lkB1_w:=aDl w.heap.size
 have hB:=hB.below k1
 have hX:=hX.below k1
 have m2:KM (·=rb) w w1:=aDr k1
 refine nx ?_
 have hrbw:=hB.lt
 refine EY 5 (fun c W=>c=gK/\KM (·=rb) w1 W/\jL s=none) (eE (V:=_::(vE (.string (jG 20000 s)))::_::(vE (zi (dD (aH 20000 s))))::_::[]) (M:=fun i=>i=rb) (ch:=[1,3]) (L:=[(fun W=>dJ rb s W),(fun W=>(aH 20000 s).isSome=true/\dJ rb (aH 20000 s) W),(fun W=>(aB (aH 20000 s)).isSome=true/\dJ rb (aB (aH 20000 s)) W)]) rfl ⟨aC,aC,aC,aC,aC,trivial⟩ rfl rfl rfl (by intro P hP a b h k;simp only [aC0,aBy,or_false] at hP;rcases hP with rfl | rfl | rfl;exact aD3 h k;exact ⟨h.1,aD3 h.2 k⟩;exact ⟨h.1,aD3 h.2 k⟩)) [(4,6)] [1] rfl (by kernel_rfl) rfl rfl rfl rfl rfl hB (fun c g W ⟨e,hk,hn⟩=>And.intro rfl (And.intro ((m2).trans hk) (Or.inr (Exists.intro c (And.intro rfl (And.intro e hn)))))) (fun Sd=>⟨
  iG 0 Sd rfl fun hT q=>dV q ((hX.km hT (fun e=>hxr e)).range) rfl,
  oc 0 [(0,2)] [] rfl rfl rfl (by rintro g1 w1 hT ⟨h0,-⟩ - hB0;exact mZ (fst:=[]) (caps:=[]) rfl (dZ (a1 h0)) Jl (rE rb s w1 hB0 ho) (fun v W hk ⟨e,h1,h2⟩=>And.intro hk (And.intro e (And.intro h1 h2))) (fun c W hk ⟨e,h1⟩=>⟨e,aD4 hT hk,by unfold jL;rw [h1] <;> rfl⟩)),
  iG 0 Sd rfl fun hT q=>dV q ((hX.km hT (fun e=>hxr e)).range) rfl,
  oc 1 [(2,4)] [] rfl rfl rfl (by rintro g1 w1 hT ⟨h2,-⟩ - ⟨hs0,hB0⟩;exact mZ (fst:=[]) (caps:=[]) rfl (dZ (a1 h2)) kB (eC rb (aH 20000 s) w1 hB0 (ho).rdT) (fun v W hk ⟨e,h1,h2⟩=>And.intro hk (And.intro e (And.intro h1 h2))) (fun c W hk ⟨e,h1⟩=>⟨e,aD4 hT hk,by unfold jL;rw [h1] <;> rfl⟩)),
  aP [1,3] Sd rfl fun h=>BN h.1 h.2.1,
  trivial⟩) ?_
 rintro g3 w3 k3 ⟨s6,-⟩ ⟨o1,-⟩ ⟨hs3,hB3⟩ Kq hK
 have s1:g3 1=pt w.heap.size (0):=o1.trans rfl
 have B1:=B1.km k3 (fun e=>hnrB1 e)
 have m4:=m2.next k3 (fun i (hi:i=rb)=>.inl hi)
 refine kI (vs:=[.string (jG 20000 s),zi (dD (aH 20000 s))]) B1 sizeOf132 s1 s6 rfl rfl fun w5 B1n O5 z5 =>?_
 replace B1:=B1n
 have hB3:=hB3.only O5 nhB_B1
 have m6:=m4.only O5 (.inr lkB1_w)
 exact hK _ _ (aE (tY (rW rfl s1 (vZ (cs:=dQ.cells (zQ s)) isAgg132 sizeOf132 B1)) ⟨m6,.inl ⟨_,rfl,rfl,hs3,hB3⟩⟩))
def MR (s:Option ByteArray):lQ:=⟨dD s,dD (aB s),dD (aB (aB s)),dD (aB (aB (aB s))),dD (aB (aB (aB (aB s)))),dD (aB (aB (aB (aB (aB s))))),dD (aB (aB (aB (aB (aB (aB s)))))),dD (aB (aB (aB (aB (aB (aB (aB s))))))),dD (aB (aB (aB (aB (aB (aB (aB (aB s)))))))),dD (aB (aB (aB (aB (aB (aB (aB (aB (aB s))))))))),dD (aB (aB (aB (aB (aB (aB (aB (aB (aB (aB s))))))))))⟩
def nF (s:Option ByteArray):Option ByteArray:=aB (aB (aB (aB (aB (aB (aB (aB (aB (aB (aB s))))))))))
theorem Yg (rb) (s:Option ByteArray) (w) (bx) (hX:Bk bx [pt rb 0] 57 w) (hxr:bx≠rb) (hB:dJ rb s w) (ho:bM s):gB (·=rb) 67 [pt bx 0] w (fun v W=>v=.agg (lQ.cells (MR s)).toArray/\(nF s).isSome=true/\dJ rb (nF s) W) (fun c _=>c=gK/\nF s=none):=by
 refine aJ (n:=27) func67 rfl ntmps67 (aA1 rfl) (rg (eA (cs:=[aV,aV,aV,aV,aV,aV,aV,aV,aV,aV,aV]) zeroValue140 rfl fun w1 B1 k1 z1 =>?_))
 have hnrB1:w.heap.size≠rb:=by have:=aEf hB;have:=(aD8 (fun _=>False) w).size;omega
 have nhB_B1:=aC8 hB.lt
 have nhX_B1:=aC8 hX.lt
 have lkB1_w:=aDl w.heap.size
 have hB:=hB.below k1
 have hX:=hX.below k1
 have m2:KM (·=rb) w w1:=aDr k1
 refine nx ?_
 have hrbw:=hB.lt
 refine EY 25 (fun c W=>c=gK/\KM (·=rb) w1 W/\nF s=none) (eE (V:=_::(vE (zi (dD s)))::_::(vE (zi (dD (aB s))))::_::(vE (zi (dD (aB (aB s)))))::_::(vE (zi (dD (aB (aB (aB s))))))::_::(vE (zi (dD (aB (aB (aB (aB s)))))))::_::(vE (zi (dD (aB (aB (aB (aB (aB s))))))))::_::(vE (zi (dD (aB (aB (aB (aB (aB (aB s)))))))))::_::(vE (zi (dD (aB (aB (aB (aB (aB (aB (aB s))))))))))::_::_::(vE (zi (dD (aB (aB (aB (aB (aB (aB (aB (aB s)))))))))))::_::(vE (zi (dD (aB (aB (aB (aB (aB (aB (aB (aB (aB s))))))))))))::_::(vE (zi (dD (aB (aB (aB (aB (aB (aB (aB (aB (aB (aB s)))))))))))))::_::_::[]) (M:=fun i=>i=rb) (ch:=[1,3,5,7,9,11,13,15,18,20,22]) (L:=[(fun W=>dJ rb s W),(fun W=>(aB s).isSome=true/\dJ rb (aB s) W),(fun W=>(aB (aB s)).isSome=true/\dJ rb (aB (aB s)) W),(fun W=>(aB (aB (aB s))).isSome=true/\dJ rb (aB (aB (aB s))) W),(fun W=>(aB (aB (aB (aB s)))).isSome=true/\dJ rb (aB (aB (aB (aB s)))) W),(fun W=>(aB (aB (aB (aB (aB s))))).isSome=true/\dJ rb (aB (aB (aB (aB (aB s))))) W),(fun W=>(aB (aB (aB (aB (aB (aB s)))))).isSome=true/\dJ rb (aB (aB (aB (aB (aB (aB s)))))) W),(fun W=>(aB (aB (aB (aB (aB (aB (aB s))))))).isSome=true/\dJ rb (aB (aB (aB (aB (aB (aB (aB s))))))) W),(fun W=>(aB (aB (aB (aB (aB (aB (aB (aB s)))))))).isSome=true/\dJ rb (aB (aB (aB (aB (aB (aB (aB (aB s)))))))) W),(fun W=>(aB (aB (aB (aB (aB (aB (aB (aB (aB s))))))))).isSome=true/\dJ rb (aB (aB (aB (aB (aB (aB (aB (aB (aB s))))))))) W),(fun W=>(aB (aB (aB (aB (aB (aB (aB (aB (aB (aB s)))))))))).isSome=true/\dJ rb (aB (aB (aB (aB (aB (aB (aB (aB (aB (aB s)))))))))) W),(fun W=>(aB (aB (aB (aB (aB (aB (aB (aB (aB (aB (aB s))))))))))).isSome=true/\dJ rb (aB (aB (aB (aB (aB (aB (aB (aB (aB (aB (aB s))))))))))) W)]) rfl ⟨aC,aC,aC,aC,aC,aC,aC,aC,aC,aC,aC,aC,aC,aC,aC,aC,aC,aC,aC,aC,aC,aC,aC,aC,aC,trivial⟩ rfl rfl rfl (by intro P hP a b h k;simp only [aC0,aBy,or_false] at hP;rcases hP with rfl | rfl | rfl | rfl | rfl | rfl | rfl | rfl | rfl | rfl | rfl | rfl;exact aD3 h k;exact ⟨h.1,aD3 h.2 k⟩;exact ⟨h.1,aD3 h.2 k⟩;exact ⟨h.1,aD3 h.2 k⟩;exact ⟨h.1,aD3 h.2 k⟩;exact ⟨h.1,aD3 h.2 k⟩;exact ⟨h.1,aD3 h.2 k⟩;exact ⟨h.1,aD3 h.2 k⟩;exact ⟨h.1,aD3 h.2 k⟩;exact ⟨h.1,aD3 h.2 k⟩;exact ⟨h.1,aD3 h.2 k⟩;exact ⟨h.1,aD3 h.2 k⟩)) [(24,26)] [1] rfl (by kernel_rfl) rfl rfl rfl rfl rfl hB (fun c g W ⟨e,hk,hn⟩=>And.intro rfl (And.intro ((m2).trans hk) (Or.inr (Exists.intro c (And.intro rfl (And.intro e hn)))))) (fun Sd=>⟨
  iG 0 Sd rfl fun hT q=>dV q ((hX.km hT (fun e=>hxr e)).range) rfl,
  oc 0 [(0,2)] [] rfl rfl rfl (by rintro g1 w1 hT ⟨h0,-⟩ - hB0;exact mZ (fst:=[]) (caps:=[]) rfl (dZ (a1 h0)) kB (eC rb s w1 hB0 ho) (fun v W hk ⟨e,h1,h2⟩=>And.intro hk (And.intro e (And.intro h1 h2))) (fun c W hk ⟨e,h1⟩=>⟨e,aD4 hT hk,by unfold nF;rw [h1] <;> rfl⟩)),
  iG 0 Sd rfl fun hT q=>dV q ((hX.km hT (fun e=>hxr e)).range) rfl,
  oc 1 [(2,4)] [] rfl rfl rfl (by rintro g1 w1 hT ⟨h2,-⟩ - ⟨hs0,hB0⟩;exact mZ (fst:=[]) (caps:=[]) rfl (dZ (a1 h2)) kB (eC rb (aB s) w1 hB0 (ho).rd) (fun v W hk ⟨e,h1,h2⟩=>And.intro hk (And.intro e (And.intro h1 h2))) (fun c W hk ⟨e,h1⟩=>⟨e,aD4 hT hk,by unfold nF;rw [h1] <;> rfl⟩)),
  iG 0 Sd rfl fun hT q=>dV q ((hX.km hT (fun e=>hxr e)).range) rfl,
  oc 2 [(4,6)] [] rfl rfl rfl (by rintro g1 w1 hT ⟨h4,-⟩ - ⟨hs0,hB0⟩;exact mZ (fst:=[]) (caps:=[]) rfl (dZ (a1 h4)) kB (eC rb (aB (aB s)) w1 hB0 ((ho).rd).rd) (fun v W hk ⟨e,h1,h2⟩=>And.intro hk (And.intro e (And.intro h1 h2))) (fun c W hk ⟨e,h1⟩=>⟨e,aD4 hT hk,by unfold nF;rw [h1] <;> rfl⟩)),
  iG 0 Sd rfl fun hT q=>dV q ((hX.km hT (fun e=>hxr e)).range) rfl,
  oc 3 [(6,8)] [] rfl rfl rfl (by rintro g1 w1 hT ⟨h6,-⟩ - ⟨hs0,hB0⟩;exact mZ (fst:=[]) (caps:=[]) rfl (dZ (a1 h6)) kB (eC rb (aB (aB (aB s))) w1 hB0 (((ho).rd).rd).rd) (fun v W hk ⟨e,h1,h2⟩=>And.intro hk (And.intro e (And.intro h1 h2))) (fun c W hk ⟨e,h1⟩=>⟨e,aD4 hT hk,by unfold nF;rw [h1] <;> rfl⟩)),
  iG 0 Sd rfl fun hT q=>dV q ((hX.km hT (fun e=>hxr e)).range) rfl,
  oc 4 [(8,10)] [] rfl rfl rfl (by rintro g1 w1 hT ⟨h8,-⟩ - ⟨hs0,hB0⟩;exact mZ (fst:=[]) (caps:=[]) rfl (dZ (a1 h8)) kB (eC rb (aB (aB (aB (aB s)))) w1 hB0 ((((ho).rd).rd).rd).rd) (fun v W hk ⟨e,h1,h2⟩=>And.intro hk (And.intro e (And.intro h1 h2))) (fun c W hk ⟨e,h1⟩=>⟨e,aD4 hT hk,by unfold nF;rw [h1] <;> rfl⟩)),
  iG 0 Sd rfl fun hT q=>dV q ((hX.km hT (fun e=>hxr e)).range) rfl,
  oc 5 [(10,12)] [] rfl rfl rfl (by rintro g1 w1 hT ⟨h10,-⟩ - ⟨hs0,hB0⟩;exact mZ (fst:=[]) (caps:=[]) rfl (dZ (a1 h10)) kB (eC rb (aB (aB (aB (aB (aB s))))) w1 hB0 (((((ho).rd).rd).rd).rd).rd) (fun v W hk ⟨e,h1,h2⟩=>And.intro hk (And.intro e (And.intro h1 h2))) (fun c W hk ⟨e,h1⟩=>⟨e,aD4 hT hk,by unfold nF;rw [h1] <;> rfl⟩)),
  iG 0 Sd rfl fun hT q=>dV q ((hX.km hT (fun e=>hxr e)).range) rfl,
  oc 6 [(12,14)] [] rfl rfl rfl (by rintro g1 w1 hT ⟨h12,-⟩ - ⟨hs0,hB0⟩;exact mZ (fst:=[]) (caps:=[]) rfl (dZ (a1 h12)) kB (eC rb (aB (aB (aB (aB (aB (aB s)))))) w1 hB0 ((((((ho).rd).rd).rd).rd).rd).rd) (fun v W hk ⟨e,h1,h2⟩=>And.intro hk (And.intro e (And.intro h1 h2))) (fun c W hk ⟨e,h1⟩=>⟨e,aD4 hT hk,by unfold nF;rw [h1] <;> rfl⟩)),
  iG 0 Sd rfl fun hT q=>dV q ((hX.km hT (fun e=>hxr e)).range) rfl,
  oc 7 [(14,16)] [] rfl rfl rfl (by rintro g1 w1 hT ⟨h14,-⟩ - ⟨hs0,hB0⟩;exact mZ (fst:=[]) (caps:=[]) rfl (dZ (a1 h14)) kB (eC rb (aB (aB (aB (aB (aB (aB (aB s))))))) w1 hB0 (((((((ho).rd).rd).rd).rd).rd).rd).rd) (fun v W hk ⟨e,h1,h2⟩=>And.intro hk (And.intro e (And.intro h1 h2))) (fun c W hk ⟨e,h1⟩=>⟨e,aD4 hT hk,by unfold nF;rw [h1] <;> rfl⟩)),
  aP [5,7,9,11,13,15] Sd rfl fun h=>iB h.1 h.2.1 h.2.2.1 h.2.2.2.1 h.2.2.2.2.1 h.2.2.2.2.2.1,
  iG 0 Sd rfl fun hT q=>dV q ((hX.km hT (fun e=>hxr e)).range) rfl,
  oc 8 [(17,19)] [] rfl rfl rfl (by rintro g1 w1 hT ⟨h17,-⟩ - ⟨hs0,hB0⟩;exact mZ (fst:=[]) (caps:=[]) rfl (dZ (a1 h17)) kB (eC rb (aB (aB (aB (aB (aB (aB (aB (aB s)))))))) w1 hB0 ((((((((ho).rd).rd).rd).rd).rd).rd).rd).rd) (fun v W hk ⟨e,h1,h2⟩=>And.intro hk (And.intro e (And.intro h1 h2))) (fun c W hk ⟨e,h1⟩=>⟨e,aD4 hT hk,by unfold nF;rw [h1] <;> rfl⟩)),
  iG 0 Sd rfl fun hT q=>dV q ((hX.km hT (fun e=>hxr e)).range) rfl,
  oc 9 [(19,21)] [] rfl rfl rfl (by rintro g1 w1 hT ⟨h19,-⟩ - ⟨hs0,hB0⟩;exact mZ (fst:=[]) (caps:=[]) rfl (dZ (a1 h19)) kB (eC rb (aB (aB (aB (aB (aB (aB (aB (aB (aB s))))))))) w1 hB0 (((((((((ho).rd).rd).rd).rd).rd).rd).rd).rd).rd) (fun v W hk ⟨e,h1,h2⟩=>And.intro hk (And.intro e (And.intro h1 h2))) (fun c W hk ⟨e,h1⟩=>⟨e,aD4 hT hk,by unfold nF;rw [h1] <;> rfl⟩)),
  iG 0 Sd rfl fun hT q=>dV q ((hX.km hT (fun e=>hxr e)).range) rfl,
  oc 10 [(21,23)] [] rfl rfl rfl (by rintro g1 w1 hT ⟨h21,-⟩ - ⟨hs0,hB0⟩;exact mZ (fst:=[]) (caps:=[]) rfl (dZ (a1 h21)) kB (eC rb (aB (aB (aB (aB (aB (aB (aB (aB (aB (aB s)))))))))) w1 hB0 ((((((((((ho).rd).rd).rd).rd).rd).rd).rd).rd).rd).rd) (fun v W hk ⟨e,h1,h2⟩=>And.intro hk (And.intro e (And.intro h1 h2))) (fun c W hk ⟨e,h1⟩=>⟨e,aD4 hT hk,by unfold nF;rw [h1] <;> rfl⟩)),
  aP [18,20,22] Sd rfl fun h=>qF h.1 h.2.1 h.2.2.1,
  aP [1,3,16,23] Sd rfl fun h=>eV h.1 h.2.1 h.2.2.1 h.2.2.2.1,
  trivial⟩) ?_
 rintro g3 w3 k3 ⟨s26,-⟩ ⟨o1,-⟩ ⟨hs3,hB3⟩ Kq hK
 have s1:g3 1=pt w.heap.size (0):=o1.trans rfl
 have B1:=B1.km k3 (fun e=>hnrB1 e)
 have m4:=m2.next k3 (fun i (hi:i=rb)=>.inl hi)
 refine kI (vs:=[zi (dD s),zi (dD (aB s)),zi (dD (aB (aB s))),zi (dD (aB (aB (aB s)))),zi (dD (aB (aB (aB (aB s))))),zi (dD (aB (aB (aB (aB (aB s)))))),zi (dD (aB (aB (aB (aB (aB (aB s))))))),zi (dD (aB (aB (aB (aB (aB (aB (aB s)))))))),zi (dD (aB (aB (aB (aB (aB (aB (aB (aB s))))))))),zi (dD (aB (aB (aB (aB (aB (aB (aB (aB (aB s)))))))))),zi (dD (aB (aB (aB (aB (aB (aB (aB (aB (aB (aB s)))))))))))]) B1 sizeOf140 s1 s26 rfl rfl fun w5 B1n O5 z5 =>?_
 replace B1:=B1n
 have hB3:=hB3.only O5 nhB_B1
 have m6:=m4.only O5 (.inr lkB1_w)
 exact hK _ _ (aE (tY (rW rfl s1 (vZ (cs:=lQ.cells (MR s)) isAgg140 sizeOf140 B1)) ⟨m6,.inl ⟨_,rfl,rfl,hs3,hB3⟩⟩))
section
variable {r:Option Nat} {n:Nat} {ds:List Deferred} {g:Nat->Value} {w:World} {Q:Exit->Act->World->Prop} {l:List Oper} {ops:Array Oper} {ty:TypeId} {pos:String} {aft:Array Edge} {d:Tmp} {x:Operand}
theorem Vv {a:Int} (hx:ev n g x=zi a) (h:∀ w',Bk w.heap.size [zi a] 2 w'->Below w.heap.size w w'->w'.heap.size=w.heap.size+1->dY r ops Q l (fr n ds (up g d (.slice (some ⟨w.heap.size,0,none⟩) 1 1))) w'):
  dY r ops Q (⟨some d,.buildSlice 39 1 #[(0,x)],ty,pos,aft,none⟩::l) (fr n ds g) w:=by
 obtain ⟨i0,hi,hz0,hz1,hz2⟩:=info_parts Cc
 refine Lr (sz:=0) (ps:=[(0,x)]) (ie:=i0) (cells:=[zi a]) underlying39 hi hz0 (by rw [hz1];rfl) (by rw [hz1];rfl) ?_ h
 rw [hz1];simp only [aC3,aDb,hx];rfl
end
def pP (f:Option ByteArray->Option ByteArray):Nat->Option ByteArray->Option ByteArray
 | 0,s=>s
 | k+1,s=>f (pP f k s)
theorem xB {f:Option ByteArray->Option ByteArray} (hf:∀ t t',f (some t)=some t'->t'.size<t.size) (h0:f none=none) (s:Option ByteArray) (hs:bM s):∀ (k:Nat) (t:ByteArray),pP f k s=some t->t.size+k<=1000000
 | 0,t,h=>hs t h
 | k+1,t,h=>by
  show _
  cases h1:pP f k s with
  | none=>unfold pP at h;rw [h1,h0] at h;cases h
  | some t1=>
   have h2:=xB hf h0 s hs k t1 h1
   unfold pP at h;rw [h1] at h
   have:=hf _ _ h;omega
theorem DX {m:Nat} (h0:0<m) (h:m<18446744073709551616):IntKind.wrap .u64 ((m:Int) - 1)=((m - 1:Nat):Int):=by rw [aCa];omega
theorem Ge {α:Type} (f:α->List Value) (l:List α) (x:α):(l++[x]).flatMap f=l.flatMap f++f x:=by simp [aBb]
def Ko {α:Type} (rb:Nat) (cells:α->List Value) (sz:Nat) (G:Option ByteArray->α->World->Prop) (own:α->Nat->Prop) (nxt:Option ByteArray->Option ByteArray) (s:Option ByteArray) (w:World) (v:Value) (W:World):Prop:=
 ∃ (l:List α) (b:Option Addr) (c:Nat),v=.slice b l.length c/\l.length=(fG s).toNat/\Rd sz W (.slice b l.length c) l.length c (l.flatMap cells)/\(∀ i (hi:i<l.length),G (pP nxt i (aB s)) l[i] W)/\(∀ i,(Value.slice b l.length c).ownBlock=some i->w.heap.size<=i) /\
  (∀ x∈l,∀ i,own x i->w.heap.size<=i/\(Value.slice b l.length c).ownBlock≠some i)/\(pP nxt (fG s).toNat (aB s)).isSome=true/\dJ rb (pP nxt (fG s).toNat (aB s)) W
def kT (Bad:Option ByteArray->Prop) (nxt:Option ByteArray->Option ByteArray) (s:Option ByteArray):Prop:=aB s=none\/∃ i,i<(fG s).toNat/\Bad (pP nxt i (aB s))
structure AS (e sz:Nat) {α:Type} (cells:α->List Value):Prop where
abbrev vA {α:Type} (cells:α->List Value) (x:α):Value:=.agg (cells x).toArray
abbrev RT {e sz:Nat} {α:Type} {cells:α->List Value} (_:AS e sz cells) (rb:Nat) (G:Option ByteArray->α->World->Prop) (own:α->Nat->Prop) (nxt:Option ByteArray->Option ByteArray) (s:Option ByteArray) (w:World) (v:Value) (W:World):Prop:=Ko rb cells sz G own nxt s w v W
def CU (e sz b:Nat):Prop:=∃ z:Value,(prog.info? e).map (fun i=>(i.zero,i.size,i.bytes))=some (some z,sz,b)/\z.cells.size=sz
abbrev vI (x:Int):Value:=zi x
def kY (F sz:Nat) {α:Type} (cells:α->List Value) (vl:α->Value):Prop:=∀ (rb:Nat) (f:FuncId) (fst caps:List Value) (nxt:Option ByteArray->Option ByteArray) (G:Option ByteArray->α->World->Prop) (own:α->Nat->Prop) (Bad:Option ByteArray->Prop) (Inv:World->Prop) (s:Option ByteArray) (w:World)
  (ef:EN f) (hB:dJ rb s w) (ho:bM s) (hI:Inv w) (hIk':∀ A B {M:Nat->Prop},Inv A->KM M A B->(∀ i,M i->i=rb\/w.heap.size<=i)->Inv B)
  (hdec:∀ t t',nxt (some t)=some t'->t'.size<t.size) (hn0:nxt none=none) (hGk:∀ s x A B {M:Nat->Prop},G s x A->KM M A B->(∀ i,own x i->¬ M i)->G s x B)
  (hget:∀ s W,dJ rb s W->s.isSome=true->bM s->Inv W->gB (·=rb) f (fst++[]++caps) W (fun v W'=>∃ x,v=vl x/\G s x W'/\(∀ i,own x i->W.heap.size<=i/\i<W'.heap.size)/\(nxt s).isSome=true/\dJ rb (nxt s) W') (fun c _=>c=gK/\Bad s)),gB (·=rb) F [.agg [pt rb 0].toArray,.func (.func f) fst.toArray caps.toArray] w (fun v W=>Ko rb cells sz G own nxt s w v W) (fun c _=>c=gK/\kT Bad nxt s)
abbrev RI {e sz:Nat} {α:Type} {cells:α->List Value} (_:AS e sz cells) (rb:Nat) (f:FuncId) (fst caps:List Value) (nxt:Option ByteArray->Option ByteArray) (G:Option ByteArray->α->World->Prop) (own:α->Nat->Prop) (Inv:World->Prop) (s:Option ByteArray) (w:World):Nat->(Nat->Value)->World->Prop:=(fun m g W=>∃ rm:Nat,∃ l:List α,∃ v:Value,m=rm/\g 1=.func (.func f) (fst).toArray (caps).toArray/\g 4=.slice none 0 0/\g 5=v/\g 6=.int .u64 ((rm:Nat):Int)/\KM (·=rb) w W/\(W.ownsRow w.heap.size e sz v l.length (l.flatMap cells)/\l.length+rm=(fG s).toNat/\(∀ i (hi:i<l.length),G (pP nxt i (aB s)) l[i] W)/\(∀ x∈l,∀ i,own x i->w.heap.size<=i/\i<W.heap.size/\Value.ownBlock v≠some i)/\(pP nxt l.length (aB s)).isSome=true/\dJ rb (pP nxt l.length (aB s)) W/\Inv W))
theorem mJ: (AS 112 2 aK.cells->prog.funcs[53]? = some Tryz.f53->Tryz.f53.ntmps=25->prog.underlying 67=some (.slice 112)->CU 112 2 16->kY 53 2 aK.cells (vA aK.cells))/\(AS 2 1 gI->prog.funcs[55]? = some Tryz.f55->Tryz.f55.ntmps=25->prog.underlying 39=some (.slice 2)->CU 2 1 8->kY 55 1 gI vI)/\(AS 119 2 jC.cells->prog.funcs[58]? = some Tryz.f58->Tryz.f58.ntmps=25->prog.underlying 68=some (.slice 119)->CU 119 2 24->kY 58 2 jC.cells (vA jC.cells))/\(AS 124 6 eL.cells->prog.funcs[60]? = some Tryz.f60->Tryz.f60.ntmps=25->prog.underlying 35=some (.slice 124)->CU 124 6 48->kY 60 6 eL.cells (vA eL.cells))/\(AS 128 3 cN.cells->prog.funcs[62]? = some Tryz.f62->Tryz.f62.ntmps=25->prog.underlying 36=some (.slice 128)->CU 128 3 16->kY 62 3 cN.cells (vA cN.cells))/\(AS 132 2 dQ.cells->prog.funcs[64]? = some Tryz.f64->Tryz.f64.ntmps=25->prog.underlying 37=some (.slice 132)->CU 132 2 24->kY 64 2 dQ.cells (vA dQ.cells))/\(AS 140 11 lQ.cells->prog.funcs[66]? = some Tryz.f66->Tryz.f66.ntmps=25->prog.underlying 38=some (.slice 140)->CU 140 11 88->kY 66 11 lQ.cells (vA lQ.cells))/\(AS 109 7 dI.cells->prog.funcs[51]? = some Tryz.f51->Tryz.f51.ntmps=25->prog.underlying 33=some (.slice 109)->CU 109 7 112->kY 51 7 dI.cells (vA dI.cells))/\(AS 70 7 bW.cells->prog.funcs[56]? = some Tryz.f56->Tryz.f56.ntmps=25->prog.underlying 34=some (.slice 70)->CU 70 7 80->kY 56 7 bW.cells (vA bW.cells))/\(AS 99 19 dH.cells->prog.funcs[46]? = some Tryz.f46->Tryz.f46.ntmps=25->prog.underlying 30=some (.slice 99)->CU 99 19 216->kY 46 19 dH.cells (vA dH.cells)):=by
 refine ⟨?_,?_,?_,?_,?_,?_,?_,?_,?_,?_⟩ <;> (
  rintro tg hfn hnt hun ⟨z,hinf,hzc⟩ rb f fst caps nxt G own Bad Inv s w ef hB ho hI hIk' hdec hn0 hGk hget
  have hIk:∀ A B,Inv A->KM (·=rb) A B->Inv B:=fun A B h k=>hIk' A B h k (fun i hi=>.inl hi)
  refine aJ (n:=25) hfn rfl hnt (aA1 rfl) (rg (cO (cs:=[pt rb (0)]) rfl rfl fun w1 B1 k1 z1 =>?_))
  have hB00:=hB
  have hnx:w.heap.size≠rb:=by have:=aEf hB;omega
  have nhB_B1:=aC8 hB.lt
  have lkB1_w:=aDl w.heap.size
  have hB:=hB.below k1
  have m2:KM (·=rb) w w1:=aDr k1
  refine bU (nx (rg (bU (nx (rg (sq (qR rfl) (sq (uG rfl (B1.cell 0 rfl)) (rG (fst:=[]) (caps:=[]) If rfl (dZ (a1 rfl)) (vV rb s _ hB ho) ?_))))))))
  rintro v3 w3 k3 ⟨rfl,hB⟩
  have B1:=B1.km k3 (fun e=>hnx e)
  have m4:=m2.next k3 (fun i (hi:i=rb)=>.inl hi)
  refine aW (.int .u64 (fG s)) rfl (nx ?_)
  have s2:=(rfl:(pt w.heap.size (0):Value)=pt w.heap.size (0))
  refine CP (fun c W=>c=gK/\(aB s)=none/\Below w3.heap.size w3 W) (lG (V:=_::_::_::(vE (.bool (aB s).isSome))::(fun _ _=>(aB s).isSome=true)::[]) rfl ⟨aA,aA,aA,aA,VV,trivial⟩) [(4,14)] [1,4,5,6] (by kernel_rfl) rfl rfl trivial (fun c g W ⟨e,hn,hb⟩=>And.intro rfl (And.intro ((m4).below hb) (Or.inr (Exists.intro c (And.intro rfl (And.intro e (.inl hn))))))) (fun Sd=>⟨
   iG 2 Sd rfl fun hT q=>dV (q.trans s2) ((B1.below hT).range) rfl,
   jA 2 Sd rfl fun q=>qR (q.trans s2),
   fY [1] Sd rfl fun hT h=>uG h.1 ((B1.below hT).cell 0 rfl),
   oW [(2,12)] [] Sd rfl fun _ _ hT h _=>gV (a1 h.1) yQ (lM rb (aB s) _ (aD3 hB hT)),
   ow [(0,10),(3,13)] [] Sd rfl rfl rfl (by rintro g1 w1 hT ⟨h0,h3,-⟩ -;exact mZ (fst:=[]) (caps:=[]) rfl (dZ (a2 h0 h3)) Ln (tD rb _ w1) (fun v W hk e=>⟨aDs hk (aDt _ _) (aDl _) (fun _ h=>h.elim),e⟩) (fun c W hk ⟨e,h1⟩=>⟨h1,AW e,aDu hT (aDs hk (aDt _ _) (aDl _) (fun _ h=>h.elim))⟩)),
   trivial⟩) ?_
  rintro g5 w5 k5 ⟨s14,-⟩ ⟨o1,o4,o5,o6,-⟩ -
  have s1:g5 1=.func (.func f) (fst).toArray (caps).toArray:=o1.trans rfl
  have s4:g5 4=cP:=o4.trans rfl
  have s5:g5 5=cP:=o5.trans rfl
  have s6:g5 6=.int .u64 (fG s):=o6.trans rfl
  have hB:=hB.below k5
  have m6:=m4.below k5
  refine aF ?_
  have hrn:=Ar s
  have hre:fG s=(((fG s).toNat:Nat):Int):=by omega
  have hI:=hIk _ _ hI m6
  have hrbw:=hB00.lt
  refine aO (lp (RI tg rb f fst caps nxt G own Inv s w) _ ⟨(fG s).toNat,[],cP,rfl,s1,s4,s5,((s6).trans (aD7 (Value.int .u64) hre)),m6,⟨fL _ _ _ _,by simp,(fun i hi=>absurd hi (Nat.not_lt_zero i)),(fun x hx=>absurd hx aBy),s14,hB,hI⟩⟩ ?_)
  rintro m g7 w7 ⟨rm,l,v,hme,s1,s4,s5,s6,km7_w,⟨hO,hml,hG,hfr,hsm,hB,hI⟩⟩
  have hsh:bM (pP nxt l.length (aB s)):=fun t ht=>by have:=xB hdec hn0 _ ho.rd _ t ht;omega
  have hln:l.length<=1000000:=by obtain ⟨t,ht⟩:=aAx.1 hsm;have:=xB hdec hn0 _ ho.rd _ t ht;omega
  have hvo:∀ i,Value.ownBlock v=some i->w.heap.size<=i/\¬ i=rb:=fun i hi=>by have:=aM hO i hi;omega
  have hkvw:∀ i,Value.ownBlock v=some i->(·=rb) i\/w.heap.size<=i:=fun i hi=>.inr (hvo i hi).1
  have hkvA:∀ i,Value.ownBlock v=some i->(fun i=>i=rb\/Value.ownBlock v=some i) i\/w7.heap.size<=i:=fun i hi=>.inl (.inr hi)
  have hwA:=km7_w.size
  refine aF (rg (bI s6 (sq (gH rfl rfl) (nx ?_))))
  refine cd rfl (fun c8=>?_) (fun c8=>?_)
  ·
   refine aG (aF (aO ?_))
   have hm0:0<rm:=by have:=aBp c8;omega
   refine eO (bI s5 (bI s1 ?_))
   have hsz:=km7_w.size
   have hvA:∀ i,Value.ownBlock v=some i->i<w7.heap.size:=fun i hi=>bA hO i hi
   refine vY (fst:=fst) (caps:=caps) ef rfl (CT rfl) (hget (pP nxt l.length (aB s)) _ hB hsm hsh hI) (fun cP9 w9 k9 hP9=>And.intro rfl (And.intro ((km7_w).next k9 (fun i (hi:i=rb)=>.inl hi)) (Or.inr (Exists.intro cP9 (And.intro rfl (And.intro hP9.1 (.inr ⟨l.length,by omega,hP9.2⟩))))))) ?_
   rintro v9 w9 k9 ⟨x,rfl,hGx,hfx,hs2,hB⟩
   have hO:=cY hO k9 (fun i hi=>(hvo i hi).2)
   have m10:KM (·=rb) w w9:=km7_w.next k9 (fun i (hi:i=rb)=>.inl hi)
   have m11:KM (fun i=>i=rb\/Value.ownBlock v=some i) w7 w9:=(aD8 _ _).next k9 (fun i (hi:i=rb)=>.inl (.inl hi))
   have hfx2:∀ i,own x i->w7.heap.size<=i/\i<w9.heap.size:=hfx
   have hkv1:∀ i,Value.ownBlock v=some i->(fun i=>Value.ownBlock v=some i) i\/w9.heap.size<=i:=fun i hi=>.inl hi
   first | refine Cd hun hinf rfl rfl rfl rfl ?_ | refine Vv rfl ?_
   intro w12 B12 k12 z12
   have nhB_B12:=aC8 hB.lt
   have lkB12_w:=m10.size
   have lkB12_w7:=m11.size
   have lkB12_w9:=aDl w9.heap.size
   have hB:=hB.below k12
   have hO:=bE hO k12
   have m13:=m10.below k12
   have m14:KM (fun i=>i=rb\/Value.ownBlock v=some i) w7 w12:=m11.below k12
   have m15:KM (fun i=>Value.ownBlock v=some i) w9 w12:=aDr k12
   refine xZ (m:=1) hun hinf hzc (aA1 rfl) rfl hO rfl rfl B12.range rfl (by simp only [maxLen];omega) (by omega) (by omega) fun v16 w16 hw16 k16 ha16 =>?_
   have hB:=hB.km k16 (fun e=>(fun i hi=>(hvo i hi).2) _ e rfl)
   have m17:KM (·=rb) w w16:=KM.own m13 k16 hkvw
   have m19:KM (fun i=>i=rb\/Value.ownBlock v=some i) w7 w16:=KM.own m14 k16 hkvA
   have m21:KM (fun i=>Value.ownBlock v=some i) w9 w16:=KM.own m15 k16 hkv1
   refine aW v16 rfl (nl (pI (eO (bI s6 (iJ (.int .u64 ((rm - 1:Nat):Int)) (Eu rfl rfl) (aD7 (Value.int .u64) (DX (by omega) (by omega))) (aW (.int .u64 ((rm - 1:Nat):Int)) rfl (nl ?_)))))))
   have hz2:=m19.size
   have hz3:=m21.size
   have hvn:∀ i,Value.ownBlock v16=some i->Value.ownBlock v=some i\/w12.heap.size<=i:=fun i hi=>by rcases ha16 with h | h;exact .inl (h ▸ hi);rw [h] at hi;cases hi;exact .inr (aDl _)
   have hz4:=m15.size
   have hz5:=k9.size
   have hz6:=k16.size
   have hG2:∀ i (hi:i<(l++[x]).length),G (pP nxt i (aB s)) ((l++[x])[i]) w16:=by
    intro i hi
    by_cases h:i<l.length
    ·rw [List.getElem_append_left h]
     exact hGk _ _ _ _ (hG i h) m19 (fun j hj hM=>by have h1:=hfr _ (aBz h) j hj;rcases hM with hM | hM;omega;exact h1.2.2 hM)
    ·have he:i=l.length:=by rw [aBh,aA3] at hi;omega
     subst he
     rw [List.getElem_append_right (aDl _)]
     simp only [Nat.sub_self,List.getElem_cons_zero]
     exact hGk _ _ _ _ hGx m21 (fun j hj hM=>by have h1:=hfx2 j hj;have h2:=hvA j hM;omega)
   have hfr2:∀ y∈l++[x],∀ i,own y i->w.heap.size<=i/\i<w16.heap.size/\Value.ownBlock v16≠some i:=by
    intro y hy i hi
    rcases aCv.1 hy with hy | hy
    ·have h1:=hfr y hy i hi
     refine ⟨h1.1,by omega,fun e=>?_⟩
     rcases hvn i e with e | e
     ·exact h1.2.2 e
     ·omega
    ·rw [aBj.1 hy] at hi
     have h1:=hfx2 i hi
     refine ⟨by omega,by omega,fun e=>?_⟩
     rcases hvn i e with e | e
     ·have:=hvA i e;omega
     ·omega
   exact fC (by omega) ⟨rm - 1,l++[x],v16,rfl,s1,s4,rfl,rfl,m17,⟨by rw [aBh,Ge];exact hw16,by rw [aBh,aA3];omega,hG2,hfr2,by rw [aBh,aA3];exact hs2,by rw [aBh,aA3];exact hB,hIk' _ _ hI m19 (fun i hi=>by rcases hi with hi | hi;exact .inl hi;exact .inr (hvo i hi).1)⟩⟩
  ·
   refine cI ?_
   repeat refine bN ?_
   refine dP (rg (bI s5 (aW v rfl (nx (aE ?_)))))
   have hme0:l.length=(fG s).toNat:=by have:=aBe c8;omega
   obtain ⟨b,c,rfl,hR⟩:=eG hO
   exact fO rfl ⟨km7_w,.inl ⟨_,rfl,l,b,c,rfl,hme0,hR,hG,fun i hi=>(hvo i hi).1,fun x hx i hi=>⟨(hfr x hx i hi).1,(hfr x hx i hi).2.2⟩,by rw [<- hme0];exact hsm,by rw [<- hme0];exact hB⟩⟩)
theorem TS: kY 53 2 aK.cells (vA aK.cells):=mJ.1 ⟨⟩ func53 ntmps53 underlying67 ⟨_,sT,rfl⟩
theorem TP: kY 55 1 gI vI:=mJ.2.1 ⟨⟩ func55 ntmps55 underlying39 ⟨_,Cc,rfl⟩
theorem TG: kY 58 2 jC.cells (vA jC.cells):=mJ.2.2.1 ⟨⟩ func58 ntmps58 underlying68 ⟨_,Pj,rfl⟩
theorem TM: kY 60 6 eL.cells (vA eL.cells):=mJ.2.2.2.1 ⟨⟩ func60 ntmps60 underlying35 ⟨_,Nz,rfl⟩
theorem Ua: kY 62 3 cN.cells (vA cN.cells):=mJ.2.2.2.2.1 ⟨⟩ func62 ntmps62 underlying36 ⟨_,Cl,rfl⟩
theorem UT: kY 64 2 dQ.cells (vA dQ.cells):=mJ.2.2.2.2.2.1 ⟨⟩ func64 ntmps64 underlying37 ⟨_,Oj,rfl⟩
theorem UH: kY 66 11 lQ.cells (vA lQ.cells):=mJ.2.2.2.2.2.2.1 ⟨⟩ func66 ntmps66 underlying38 ⟨_,OB,rfl⟩
theorem SF: kY 51 7 dI.cells (vA dI.cells):=mJ.2.2.2.2.2.2.2.1 ⟨⟩ func51 ntmps51 underlying33 ⟨_,RN,rfl⟩
theorem SC: kY 56 7 bW.cells (vA bW.cells):=mJ.2.2.2.2.2.2.2.2.1 ⟨⟩ func56 ntmps56 underlying34 ⟨_,Sr,rfl⟩
theorem Vb: kY 46 19 dH.cells (vA dH.cells):=mJ.2.2.2.2.2.2.2.2.2 ⟨⟩ func46 ntmps46 underlying30 ⟨_,TL,rfl⟩
end Go.Proofs.YtlfjfopjjbbcoaaGreatDoor
