/-
  A part of the proof of ImageText: walks of its functions and plain laws. Nothing is asked.
-/
import Derived.Test.YtlfjfopjjbbcoaaGreatDoorPB
import Derived.Shelf.SlicesE.Clone
import Derived.Laws.StructEq
set_option linter.all false
set_option autoImplicit true
set_option relaxedAutoImplicit true
namespace Go.Proofs.YtlfjfopjjbbcoaaGreatDoor
open Go.Proofs.Tryz
open Go.RowKit
section
variable {p:aK->Bool} {d:Array aK} {a i j u v:Nat}
theorem Xc (h:i<=j) (h2:p d[i]! = true):Sort.scanUp p d j i=Sort.scanUp p d j (i+1):=by rw [Sort.scanUp,aEc (by simp [h,h2])]
theorem WL (h:(decide (i<=j)&&p d[i]!)=false):Sort.scanUp p d j i=i:=by rw [Sort.scanUp,aEd (by rw [h];exact aBf)]
theorem XR (h:i<=j) (h0:0<j) (h2:p d[j]! = true):Sort.scanDown p d i j=Sort.scanDown p d i (j - 1):=by
 cases j with
 | zero=>omega
 | succ j=>rw [Sort.scanDown,aEc (by simp [h,h2])];rfl
theorem XF (h:(decide (i<=j)&&p d[j]!)=false):Sort.scanDown p d i j=j:=by
 cases j with
 | zero=>rfl
 | succ j=>rw [Sort.scanDown,aEd (by rw [h];exact aBf)]
theorem pe_x (hu:u=Sort.scanUp (fun x=>!bK d[a]! x) d j i) (hv:v=Sort.scanDown (fun x=>bK d[a]! x) d u j) (h:v<u):Sort.partEqLoop bK a i j d=(u,d):=by
 subst hv hu;rw [Sort.partEqLoop];simp only [gt_iff_lt];rw [aEc h]
theorem pe_s (hu:u=Sort.scanUp (fun x=>!bK d[a]! x) d j i) (hv:v=Sort.scanDown (fun x=>bK d[a]! x) d u j) (h:¬ v<u) (h1:(v - 1)+1 - (u+1)<j+1 - i):Sort.partEqLoop bK a i j d=Sort.partEqLoop bK a (u+1) (v - 1) (Sort.swp d u v):=by
 subst hv hu;rw [Sort.partEqLoop];simp only [gt_iff_lt];rw [aEd h,dif_pos h1]
theorem pl_x (hu:u=Sort.scanUp (fun x=>bK x d[a]!) d j i) (hv:v=Sort.scanDown (fun x=>!bK x d[a]!) d u j) (h:v<u):Sort.partLoop bK a i j d=(v,d):=by
 subst hv hu;rw [Sort.partLoop];simp only [gt_iff_lt];rw [aEc h]
theorem pl_s (hu:u=Sort.scanUp (fun x=>bK x d[a]!) d j i) (hv:v=Sort.scanDown (fun x=>!bK x d[a]!) d u j) (h:¬ v<u) (h1:(v - 1)+1 - (u+1)<j+1 - i):Sort.partLoop bK a i j d=Sort.partLoop bK a (u+1) (v - 1) (Sort.swp d u v):=by
 subst hv hu;rw [Sort.partLoop];simp only [gt_iff_lt];rw [aEd h,dif_pos h1]
end
theorem WG (b c N) (d) (lo hi pv) (w) (hR:Bk b (dE tl d) 112 w) (hz:d.size=N) (hN:N<=1000000) (h1:lo<=pv) (h2:pv<hi) (h3:hi<=N) (r:Nat × Array aK) (hr:Sort.partitionEqual bK d lo hi pv=r):jP (·=b) 257 [.slice (some ⟨b,0,none⟩) N c,zi (lo:Int),zi (hi:Int),zi (pv:Int),FV] w fun v W=>v=zi ((r.1:Nat):Int)/\Bk b (dE tl r.2) 112 W/\r.2.size=N/\lo<r.1/\r.1<=hi:=by
 refine aJ (n:=90) func257 rfl ntmps257 (aA1 rfl) (rg (bU (nx ?_)))
 refine CP (fun _ _=>False) (eE (V:=_::_::_::_::_::_::_::_::_::_::_::_::_::(fun _ _=>True)::_::(fun _ _=>True)::[]) (M:=fun i=>i=b) (ch:=[13,15]) (L:=[fun W=>Bk b (dE tl d) 112 W,fun W=>Bk b (dE tl (d.setIfInBounds lo d[pv]!)) 112 W,fun W=>Bk b (dE tl ((d.setIfInBounds lo d[pv]!).setIfInBounds pv d[lo]!)) 112 W]) rfl ⟨aC,aC,aC,aC,aC,aC,aC,aC,aC,aC,aC,aC,aC,fI,aC,fI,trivial⟩ rfl rfl rfl (by intro P hP a b h k;simp only [aC0,aBy,or_false] at hP;rcases hP with rfl | rfl | rfl <;> exact mQ h k)) [] [0,1,2,4,10] (by kernel_rfl) rfl rfl hR (fun _ _ _ h=>h.elim) (fun Sd=>⟨
  bF Sd rfl rfl,
  bF Sd rfl rfl,
  bF Sd rfl rfl,
  bF Sd rfl rfl,
  bF Sd rfl rfl,
  bF Sd rfl rfl,
  aP [4,5] Sd rfl fun h=>bB underlying67 sizeOf112 h.1 h.2.1 (by omega),
  ol [(6,19)] [] Sd rfl rfl rfl rfl (by rintro g1 w1 hT ⟨h6,-⟩ - hB0;exact dv (bQ h6 (fA hB0 (by omega)) rfl) rfl),
  bF Sd rfl rfl,
  bF Sd rfl rfl,
  aP [8,9] Sd rfl fun h=>bB underlying67 sizeOf112 h.1 h.2.1 (by omega),
  ol [(10,23)] [] Sd rfl rfl rfl rfl (by rintro g1 w1 hT ⟨h10,-⟩ - hB0;exact dv (bQ h10 (fA hB0 (by omega)) rfl) rfl),
  aP [0,1] Sd rfl fun h=>bB underlying67 sizeOf112 h.1 h.2.1 (by omega),
  oc 0 [(7,20),(12,25)] [] rfl rfl rfl (by rintro g1 w1 hT ⟨h7,h12,-⟩ - hB0;exact jF hB0 h12 h7 (by omega) (fun W hB9 O=>And.intro (aD0 O rfl) (And.intro True.intro hB9))),
  aP [2,3] Sd rfl fun h=>bB underlying67 sizeOf112 h.1 h.2.1 (by omega),
  oc 1 [(11,24),(14,26)] [] rfl rfl rfl (by rintro g1 w1 hT ⟨h11,h14,-⟩ - hB0;exact jF hB0 h14 h11 (by rw [EP];omega) (fun W hB9 O=>And.intro (aD0 O rfl) (And.intro True.intro hB9))),
  trivial⟩) ?_
 rintro g1 w1 k1 - ⟨o0,o1,o2,o4,o10,-⟩ hR1
 have hR1:Bk b (dE tl (Sort.swp d lo pv)) 112 w1:=hR1
 have hz1:(Sort.swp d lo pv).size=N:=by rw [iN];omega
 have s0:g1 0=.slice (some ⟨b,0,none⟩) N c:=o0.trans rfl
 have s1:g1 1=zi ((lo:Nat):Int):=o1.trans rfl
 have s2:g1 2=zi ((hi:Nat):Int):=o2.trans rfl
 have s4:g1 4=.func (.func 216) ([mO]).toArray ([]).toArray:=o4.trans rfl
 have s10:g1 10=zi (0):=o10.trans rfl
 have m2:KM (·=b) w w1:=k1
 refine rg (bI s1 (sq (cF (a:=lo) (b:=1) rfl rfl (by omega)) (bI s2 (sq (cS (a:=hi) (b:=1) rfl rfl (by omega)) (aW (zi ((lo+1:Nat):Int)) rfl (aW (zi ((hi - 1:Nat):Int)) rfl (nx (aF ?_))))))))
 refine aO (lp (fun m g W=>∃ i:Nat,∃ j:Nat,∃ y:Array aK,m=j+1 - i/\g 0=.slice (some ⟨b,0,none⟩) N c/\g 1=zi ((lo:Nat):Int)/\g 4=.func (.func 216) ([mO]).toArray ([]).toArray/\g 10=zi (0)/\g 11=zi ((i:Nat):Int)/\g 12=zi ((j:Nat):Int)/\Bk b (dE tl y) 112 W/\KM (·=b) w W/\y.size=N/\((lo<i/\i<=hi/\lo<=j/\j<hi)/\Sort.partEqLoop bK lo i j y=Sort.partitionEqual bK d lo hi pv)) _ ⟨(lo+1),(hi - 1),(Sort.swp d lo pv),rfl,s0,s1,s4,s10,rfl,rfl,hR1,m2,(by first | omega | (simp only [iN];omega)),And.intro (by omega) rfl⟩ ?_)
 rintro m g3 w3 ⟨i,j,y,hme3,s0,s1,s4,s10,s11,s12,hR3,km3,hz3,hP⟩
 refine aO (aF ?_)
 refine aO (lp (fun m g W=>∃ ku:Nat,m=j+1 - ku/\g 0=.slice (some ⟨b,0,none⟩) N c/\g 1=zi ((lo:Nat):Int)/\g 4=.func (.func 216) ([mO]).toArray ([]).toArray/\g 10=zi (0)/\g 11=zi ((ku:Nat):Int)/\g 12=zi ((j:Nat):Int)/\Bk b (dE tl y) 112 W/\KM (·=b) w W/\y.size=N/\((i<=ku/\(ku<=j+1\/ku=i))/\Sort.scanUp (fun x=>!bK y[lo]! x) y j ku=Sort.scanUp (fun x=>!bK y[lo]! x) y j i)) _ ⟨i,rfl,s0,s1,s4,s10,s11,s12,hR3,km3,(by first | omega | (simp only [iN];omega)),And.intro (by omega) rfl⟩ ?_)
 rintro m g4 w4 ⟨ku,hme4,s0,s1,s4,s10,s11,s12,hR4,km4,hz4,hU⟩
 refine aF ?_
 refine sD (_::_::_::_::_::_::_::_::_::_::_::_::_::(GV (decide (ku<=j)) (vE (zi (jN ((y[lo]!).at_) ((y[ku]!).at_)))))::_::_::_::[]) [(16,47)] [0,1,4,10,11,12] rfl ⟨aA,aA,aA,aA,aD aA,aD aA,aD aA,aD aA,aD aA,aD aA,aD aA,aD aA,aD aA,aD aA,aD aA,aD aA,aA,trivial⟩ (by kernel_rfl) rfl rfl (fun Sd=>⟨
  bF Sd rfl s11,
  bF Sd rfl s12,
  aP [0,1] Sd rfl fun h=>AI (a:=ku) (b:=j) h.1 h.2.1,
  oW [(2,33)] [] Sd rfl fun _ _ _ h _=>dv aT h.1,
  iP Sd rfl s4,
  iP Sd rfl s0,
  iP Sd rfl s1,
  dM [5,6] Sd rfl fun e _ h=>bB underlying67 sizeOf112 (h.1.1 e) (h.2.1.1 e) (by have he:=aBp e;omega),
  dM [7] Sd rfl fun e hT h=>bQ (h.1.1 e) (lE hR4 hT (by have he:=aBp e;omega)) rfl,
  iP Sd rfl s0,
  iP Sd rfl s11,
  dM [9,10] Sd rfl fun e _ h=>bB underlying67 sizeOf112 (h.1.1 e) (h.2.1.1 e) (by have he:=aBp e;omega),
  dM [11] Sd rfl fun e hT h=>bQ (h.1.1 e) (lE hR4 hT (by have he:=aBp e;omega)) rfl,
  oT [(4,35),(8,39),(12,43)] [] Sd rfl i2 gU fun e _ _ _ h _=>dG e (II (fst:=[mO]) (h.1.1 e) (wO (a2 (h.2.1.1 e) (h.2.2.1.1 e))) oP (kO y[lo]! y[ku]! _)),
  dM [13] Sd rfl fun e _ h=>eT (h.1.1 e) rfl,
  dM [14] Sd rfl fun e _ h=>cJ (h.1.1 e),
  aP [3,15] Sd rfl fun h=>cG h.1 (fun c=>h.2.1.1 c),
  trivial⟩) ?_
 rintro g5 w5 k5 ⟨s47,-⟩ ⟨o0,o1,o4,o10,o11,o12,-⟩
 have s0:=o0.trans s0
 have s1:=o1.trans s1
 have s4:=o4.trans s4
 have s10:=o10.trans s10
 have s11:=o11.trans s11
 have s12:=o12.trans s12
 have hR4:=hR4.below k5
 have m6:KM (·=b) w w5:=km4.below k5
 refine cd s47 (fun c7=>?_) (fun c7=>?_)
 ·
  have c7n:=aBp (Np c7)
  exact aG (aO (eO (bI s11 (sq (cF (a:=ku) (b:=1) rfl rfl (by omega)) (aW (zi ((ku+1:Nat):Int)) rfl (nl (pI (fC (by omega) ⟨(ku+1),rfl,s0,s1,s4,s10,rfl,s12,hR4,m6,(by first | omega | (simp only [iN];omega)),And.intro (by omega) (by rw [<- hU.2,Xc (p:=fun x=>!bK y[lo]! x) c7n (VS c7)])⟩))))))))
 ·
  refine cI ?_
  repeat (first | refine bN ?_ | refine dC rfl ?_)
  refine dP ?_
  have hUe:ku=Sort.scanUp (fun x=>!bK y[lo]! x) y j i:=by rw [<- hU.2,WL (p:=fun x=>!bK y[lo]! x) c7]
  refine aF ?_
  refine aO (lp (fun m g W=>∃ kv:Nat,m=kv/\g 0=.slice (some ⟨b,0,none⟩) N c/\g 1=zi ((lo:Nat):Int)/\g 4=.func (.func 216) ([mO]).toArray ([]).toArray/\g 10=zi (0)/\g 11=zi ((ku:Nat):Int)/\g 12=zi ((kv:Nat):Int)/\Bk b (dE tl y) 112 W/\KM (·=b) w W/\y.size=N/\((lo<=kv/\kv<=j)/\Sort.scanDown (fun x=>bK y[lo]! x) y ku kv=Sort.scanDown (fun x=>bK y[lo]! x) y ku j)) _ ⟨j,rfl,s0,s1,s4,s10,s11,s12,hR4,m6,(by first | omega | (simp only [iN];omega)),And.intro (by omega) rfl⟩ ?_)
  rintro m g8 w8 ⟨kv,hme8,s0,s1,s4,s10,s11,s12,hR8,km8,hz8,hV⟩
  refine aF ?_
  refine sD (_::_::_::_::_::_::_::_::_::_::_::_::_::(GV (decide (ku<=kv)) (vE (zi (jN ((y[lo]!).at_) ((y[kv]!).at_)))))::_::_::[]) [(15,65)] [0,1,4,10,11,12] rfl ⟨aA,aA,aA,aA,aD aA,aD aA,aD aA,aD aA,aD aA,aD aA,aD aA,aD aA,aD aA,aD aA,aD aA,aA,trivial⟩ (by kernel_rfl) rfl rfl (fun Sd=>⟨
   bF Sd rfl s11,
   bF Sd rfl s12,
   aP [0,1] Sd rfl fun h=>AI (a:=ku) (b:=kv) h.1 h.2.1,
   oW [(2,52)] [] Sd rfl fun _ _ _ h _=>dv aT h.1,
   iP Sd rfl s4,
   iP Sd rfl s0,
   iP Sd rfl s1,
   dM [5,6] Sd rfl fun e _ h=>bB underlying67 sizeOf112 (h.1.1 e) (h.2.1.1 e) (by have he:=aBp e;omega),
   dM [7] Sd rfl fun e hT h=>bQ (h.1.1 e) (lE hR8 hT (by have he:=aBp e;omega)) rfl,
   iP Sd rfl s0,
   iP Sd rfl s12,
   dM [9,10] Sd rfl fun e _ h=>bB underlying67 sizeOf112 (h.1.1 e) (h.2.1.1 e) (by have he:=aBp e;omega),
   dM [11] Sd rfl fun e hT h=>bQ (h.1.1 e) (lE hR8 hT (by have he:=aBp e;omega)) rfl,
   oT [(4,54),(8,58),(12,62)] [] Sd rfl i2 gU fun e _ _ _ h _=>dG e (II (fst:=[mO]) (h.1.1 e) (wO (a2 (h.2.1.1 e) (h.2.2.1.1 e))) oP (kO y[lo]! y[kv]! _)),
   dM [13] Sd rfl fun e _ h=>eT (h.1.1 e) rfl,
   aP [3,14] Sd rfl fun h=>cG h.1 (fun c=>h.2.1.1 c),
   trivial⟩) ?_
  rintro g9 w9 k9 ⟨s65,-⟩ ⟨o0,o1,o4,o10,o11,o12,-⟩
  have s0:=o0.trans s0
  have s1:=o1.trans s1
  have s4:=o4.trans s4
  have s10:=o10.trans s10
  have s11:=o11.trans s11
  have s12:=o12.trans s12
  have hR8:=hR8.below k9
  have m10:KM (·=b) w w9:=km8.below k9
  refine cd s65 (fun c11=>?_) (fun c11=>?_)
  ·
   have c11n:=aBp (Np c11)
   exact aG (aO (eO (bI s12 (sq (cS (a:=kv) (b:=1) rfl rfl (by omega)) (aW (zi ((kv - 1:Nat):Int)) rfl (nl (pI (fC (by omega) ⟨(kv - 1),rfl,s0,s1,s4,s10,s11,rfl,hR8,m10,(by first | omega | (simp only [iN];omega)),And.intro (by omega) (by rw [<- hV.2,XR (p:=fun x=>bK y[lo]! x) c11n (by omega) (VS c11)])⟩))))))))
  ·
   refine cI ?_
   repeat (first | refine bN ?_ | refine dC rfl ?_)
   refine dP ?_
   have hVe:kv=Sort.scanDown (fun x=>bK y[lo]! x) y ku j:=by rw [<- hV.2,XF (p:=fun x=>bK y[lo]! x) c11]
   refine aF (rg (bI s11 (bI s12 (sq (GS (a:=ku) (b:=kv) rfl rfl) (nx ?_)))))
   refine cd rfl (fun c12=>?_) (fun c12=>?_)
   ·
    have c12n:=aBp c12
    refine cI ?_
    repeat (first | refine bN ?_ | refine dC rfl ?_)
    exact dP (rg (bI s11 (aW (zi ((ku:Nat):Int)) rfl (nx (aE (fO rfl ⟨_,rfl,m10,by rw [<- hr,<- hP.2,pe_x hUe hVe c12n];exact ⟨rfl,hR8,by omega,by simp only;omega,by simp only;omega⟩⟩))))))
   ·
    have c12n:=aBe c12
    refine aG ?_
    refine CP (fun _ _=>False) (eE (V:=_::_::_::_::_::_::_::_::_::_::_::_::_::(fun _ _=>True)::_::(fun _ _=>True)::[]) (M:=fun i=>i=b) (ch:=[13,15]) (L:=[fun W=>Bk b (dE tl y) 112 W,fun W=>Bk b (dE tl (y.setIfInBounds ku y[kv]!)) 112 W,fun W=>Bk b (dE tl ((y.setIfInBounds ku y[kv]!).setIfInBounds kv y[ku]!)) 112 W]) rfl ⟨aC,aC,aC,aC,aC,aC,aC,aC,aC,aC,aC,aC,aC,fI,aC,fI,trivial⟩ rfl rfl rfl (by intro P hP a b h k;simp only [aC0,aBy,or_false] at hP;rcases hP with rfl | rfl | rfl <;> exact mQ h k)) [] [0,1,4,10,11,12] (by kernel_rfl) rfl rfl hR8 (fun _ _ _ h=>h.elim) (fun Sd=>⟨
     bF Sd rfl s0,
     bF Sd rfl s11,
     bF Sd rfl s0,
     bF Sd rfl s12,
     bF Sd rfl s0,
     bF Sd rfl s12,
     aP [4,5] Sd rfl fun h=>bB underlying67 sizeOf112 h.1 h.2.1 (by omega),
     ol [(6,77)] [] Sd rfl rfl rfl rfl (by rintro g1 w1 hT ⟨h6,-⟩ - hB0;exact dv (bQ h6 (fA hB0 (by omega)) rfl) rfl),
     bF Sd rfl s0,
     bF Sd rfl s11,
     aP [8,9] Sd rfl fun h=>bB underlying67 sizeOf112 h.1 h.2.1 (by omega),
     ol [(10,81)] [] Sd rfl rfl rfl rfl (by rintro g1 w1 hT ⟨h10,-⟩ - hB0;exact dv (bQ h10 (fA hB0 (by omega)) rfl) rfl),
     aP [0,1] Sd rfl fun h=>bB underlying67 sizeOf112 h.1 h.2.1 (by omega),
     oc 0 [(7,78),(12,83)] [] rfl rfl rfl (by rintro g1 w1 hT ⟨h7,h12,-⟩ - hB0;exact jF hB0 h12 h7 (by omega) (fun W hB9 O=>And.intro (aD0 O rfl) (And.intro True.intro hB9))),
     aP [2,3] Sd rfl fun h=>bB underlying67 sizeOf112 h.1 h.2.1 (by omega),
     oc 1 [(11,82),(14,84)] [] rfl rfl rfl (by rintro g1 w1 hT ⟨h11,h14,-⟩ - hB0;exact jF hB0 h14 h11 (by rw [EP];omega) (fun W hB9 O=>And.intro (aD0 O rfl) (And.intro True.intro hB9))),
     trivial⟩) ?_
    rintro g13 w13 k13 - ⟨o0,o1,o4,o10,o11,o12,-⟩ hR13
    have hR13:Bk b (dE tl (Sort.swp y ku kv)) 112 w13:=hR13
    have hz13:(Sort.swp y ku kv).size=N:=by rw [iN];omega
    have s0:=o0.trans s0
    have s1:=o1.trans s1
    have s4:=o4.trans s4
    have s10:=o10.trans s10
    have s11:=o11.trans s11
    have s12:=o12.trans s12
    have m14:=m10.trans k13
    exact rg (bI s11 (sq (cF (a:=ku) (b:=1) rfl rfl (by omega)) (aW (zi ((ku+1:Nat):Int)) rfl (nx (eO (bI s12 (sq (cS (a:=kv) (b:=1) rfl rfl (by omega)) (aW (zi ((kv - 1:Nat):Int)) rfl (nl (pI (fC (by omega) ⟨(ku+1),(kv - 1),(Sort.swp y ku kv),rfl,s0,s1,s4,s10,rfl,rfl,hR13,m14,(by first | omega | (simp only [iN];omega)),And.intro (by omega) (by rw [<- hP.2];exact (pe_s hUe hVe c12n (by omega)).symm)⟩)))))))))))
theorem pt_x (hu:u=Sort.scanUp (fun x=>bK x (Sort.swp d lo pv)[lo]!) (Sort.swp d lo pv) (hi - 1) (lo+1)) (hv:v=Sort.scanDown (fun x=>!bK x (Sort.swp d lo pv)[lo]!) (Sort.swp d lo pv) u (hi - 1)) (h:v<u):Sort.partition bK d lo hi pv=(v,true,Sort.swp (Sort.swp d lo pv) v lo):=by
 subst hv hu;unfold Sort.partition;simp only [gt_iff_lt];rw [aEc h]
theorem pt_s (hu:u=Sort.scanUp (fun x=>bK x (Sort.swp d lo pv)[lo]!) (Sort.swp d lo pv) (hi - 1) (lo+1)) (hv:v=Sort.scanDown (fun x=>!bK x (Sort.swp d lo pv)[lo]!) (Sort.swp d lo pv) u (hi - 1)) (h:¬ v<u):Sort.partition bK d lo hi pv=((Sort.partLoop bK lo (u+1) (v - 1) (Sort.swp (Sort.swp d lo pv) u v)).1,false,Sort.swp (Sort.partLoop bK lo (u+1) (v - 1) (Sort.swp (Sort.swp d lo pv) u v)).2 (Sort.partLoop bK lo (u+1) (v - 1) (Sort.swp (Sort.swp d lo pv) u v)).1 lo):=by
 subst hv hu;unfold Sort.partition;simp only [gt_iff_lt];rw [aEd h]
theorem Yu (b c N) (d) (lo hi pv) (w) (hR:Bk b (dE tl d) 112 w) (hz:d.size=N) (hN:N<=1000000) (h1:lo<=pv) (h2:pv<hi) (h3:hi<=N) (r:Nat × Bool × Array aK) (hr:Sort.partition bK d lo hi pv=r):jP (·=b) 258 [.slice (some ⟨b,0,none⟩) N c,zi (lo:Int),zi (hi:Int),zi (pv:Int),FV] w fun v W=>v=.tuple #[zi ((r.1:Nat):Int),.bool r.2.1]/\Bk b (dE tl r.2.2) 112 W/\r.2.2.size=N/\lo<=r.1/\r.1<hi:=by
 refine aJ (n:=178) func258 rfl ntmps258 (aA1 rfl) (rg (bU (bU (nx ?_))))
 refine CP (fun _ _=>False) (eE (V:=_::_::_::_::_::_::_::_::_::_::_::_::_::(fun _ _=>True)::_::(fun _ _=>True)::[]) (M:=fun i=>i=b) (ch:=[13,15]) (L:=[fun W=>Bk b (dE tl d) 112 W,fun W=>Bk b (dE tl (d.setIfInBounds lo d[pv]!)) 112 W,fun W=>Bk b (dE tl ((d.setIfInBounds lo d[pv]!).setIfInBounds pv d[lo]!)) 112 W]) rfl ⟨aC,aC,aC,aC,aC,aC,aC,aC,aC,aC,aC,aC,aC,fI,aC,fI,trivial⟩ rfl rfl rfl (by intro P hP a b h k;simp only [aC0,aBy,or_false] at hP;rcases hP with rfl | rfl | rfl <;> exact mQ h k)) [] [0,1,2,4,10,11] (by kernel_rfl) rfl rfl hR (fun _ _ _ h=>h.elim) (fun Sd=>⟨
  bF Sd rfl rfl,
  bF Sd rfl rfl,
  bF Sd rfl rfl,
  bF Sd rfl rfl,
  bF Sd rfl rfl,
  bF Sd rfl rfl,
  aP [4,5] Sd rfl fun h=>bB underlying67 sizeOf112 h.1 h.2.1 (by omega),
  ol [(6,20)] [] Sd rfl rfl rfl rfl (by rintro g1 w1 hT ⟨h6,-⟩ - hB0;exact dv (bQ h6 (fA hB0 (by omega)) rfl) rfl),
  bF Sd rfl rfl,
  bF Sd rfl rfl,
  aP [8,9] Sd rfl fun h=>bB underlying67 sizeOf112 h.1 h.2.1 (by omega),
  ol [(10,24)] [] Sd rfl rfl rfl rfl (by rintro g1 w1 hT ⟨h10,-⟩ - hB0;exact dv (bQ h10 (fA hB0 (by omega)) rfl) rfl),
  aP [0,1] Sd rfl fun h=>bB underlying67 sizeOf112 h.1 h.2.1 (by omega),
  oc 0 [(7,21),(12,26)] [] rfl rfl rfl (by rintro g1 w1 hT ⟨h7,h12,-⟩ - hB0;exact jF hB0 h12 h7 (by omega) (fun W hB9 O=>And.intro (aD0 O rfl) (And.intro True.intro hB9))),
  aP [2,3] Sd rfl fun h=>bB underlying67 sizeOf112 h.1 h.2.1 (by omega),
  oc 1 [(11,25),(14,27)] [] rfl rfl rfl (by rintro g1 w1 hT ⟨h11,h14,-⟩ - hB0;exact jF hB0 h14 h11 (by rw [EP];omega) (fun W hB9 O=>And.intro (aD0 O rfl) (And.intro True.intro hB9))),
  trivial⟩) ?_
 rintro g1 w1 k1 - ⟨o0,o1,o2,o4,o10,o11,-⟩ hR1
 have hR1:Bk b (dE tl (Sort.swp d lo pv)) 112 w1:=hR1
 have hz1:(Sort.swp d lo pv).size=N:=by rw [iN];omega
 have s0:g1 0=.slice (some ⟨b,0,none⟩) N c:=o0.trans rfl
 have s1:g1 1=zi ((lo:Nat):Int):=o1.trans rfl
 have s2:g1 2=zi ((hi:Nat):Int):=o2.trans rfl
 have s4:g1 4=.func (.func 216) ([mO]).toArray ([]).toArray:=o4.trans rfl
 have s10:g1 10=zi (0):=o10.trans rfl
 have s11:g1 11=.bool false:=o11.trans rfl
 have m2:KM (·=b) w w1:=k1
 refine rg (bI s1 (sq (cF (a:=lo) (b:=1) rfl rfl (by omega)) (bI s2 (sq (cS (a:=hi) (b:=1) rfl rfl (by omega)) (aW (zi ((lo+1:Nat):Int)) rfl (aW (zi ((hi - 1:Nat):Int)) rfl (nx (aF ?_))))))))
 refine aO (lp (fun m g W=>∃ u0:Nat,m=(hi - 1)+1 - u0/\g 0=.slice (some ⟨b,0,none⟩) N c/\g 1=zi ((lo:Nat):Int)/\g 4=.func (.func 216) ([mO]).toArray ([]).toArray/\g 10=zi (0)/\g 11=.bool false/\g 12=zi ((u0:Nat):Int)/\g 13=zi ((hi - 1:Nat):Int)/\Bk b (dE tl (Sort.swp d lo pv)) 112 W/\KM (·=b) w W/\(Sort.swp d lo pv).size=N/\(((lo+1)<=u0/\(u0<=(hi - 1)+1\/u0=(lo+1)))/\Sort.scanUp (fun x=>bK x (Sort.swp d lo pv)[lo]!) (Sort.swp d lo pv) (hi - 1) u0=Sort.scanUp (fun x=>bK x (Sort.swp d lo pv)[lo]!) (Sort.swp d lo pv) (hi - 1) (lo+1))) _ ⟨(lo+1),rfl,s0,s1,s4,s10,s11,rfl,rfl,hR1,m2,(by first | omega | (simp only [iN];omega)),And.intro (by omega) rfl⟩ ?_)
 rintro m g3 w3 ⟨u0,hme3,s0,s1,s4,s10,s11,s12,s13,hR3,km3,hz3,hA⟩
 refine aF ?_
 refine sD (_::_::_::_::_::_::_::_::_::_::_::_::_::(GV (decide (u0<=(hi - 1))) (vE (zi (jN (((Sort.swp d lo pv)[u0]!).at_) (((Sort.swp d lo pv)[lo]!).at_)))))::_::_::[]) [(15,47)] [0,1,4,10,11,12,13] rfl ⟨aA,aA,aA,aA,aD aA,aD aA,aD aA,aD aA,aD aA,aD aA,aD aA,aD aA,aD aA,aD aA,aD aA,aA,trivial⟩ (by kernel_rfl) rfl rfl (fun Sd=>⟨
  bF Sd rfl s12,
  bF Sd rfl s13,
  aP [0,1] Sd rfl fun h=>AI (a:=u0) (b:=hi - 1) h.1 h.2.1,
  oW [(2,34)] [] Sd rfl fun _ _ _ h _=>dv aT h.1,
  iP Sd rfl s4,
  iP Sd rfl s0,
  iP Sd rfl s12,
  dM [5,6] Sd rfl fun e _ h=>bB underlying67 sizeOf112 (h.1.1 e) (h.2.1.1 e) (by have he:=aBp e;omega),
  dM [7] Sd rfl fun e hT h=>bQ (h.1.1 e) (lE hR3 hT (by have he:=aBp e;omega)) rfl,
  iP Sd rfl s0,
  iP Sd rfl s1,
  dM [9,10] Sd rfl fun e _ h=>bB underlying67 sizeOf112 (h.1.1 e) (h.2.1.1 e) (by have he:=aBp e;omega),
  dM [11] Sd rfl fun e hT h=>bQ (h.1.1 e) (lE hR3 hT (by have he:=aBp e;omega)) rfl,
  oT [(4,36),(8,40),(12,44)] [] Sd rfl i2 gU fun e _ _ _ h _=>dG e (II (fst:=[mO]) (h.1.1 e) (wO (a2 (h.2.1.1 e) (h.2.2.1.1 e))) oP (kO (Sort.swp d lo pv)[u0]! (Sort.swp d lo pv)[lo]! _)),
  dM [13] Sd rfl fun e _ h=>eT (h.1.1 e) rfl,
  aP [3,14] Sd rfl fun h=>cG h.1 (fun c=>h.2.1.1 c),
  trivial⟩) ?_
 rintro g4 w4 k4 ⟨s47,-⟩ ⟨o0,o1,o4,o10,o11,o12,o13,-⟩
 have s0:=o0.trans s0
 have s1:=o1.trans s1
 have s4:=o4.trans s4
 have s10:=o10.trans s10
 have s11:=o11.trans s11
 have s12:=o12.trans s12
 have s13:=o13.trans s13
 have hR3:=hR3.below k4
 have m5:KM (·=b) w w4:=km3.below k4
 refine cd s47 (fun c6=>?_) (fun c6=>?_)
 ·
  have c6n:=aBp (Np c6)
  exact aG (aO (eO (bI s12 (sq (cF (a:=u0) (b:=1) rfl rfl (by omega)) (aW (zi ((u0+1:Nat):Int)) rfl (nl (pI (fC (by omega) ⟨(u0+1),rfl,s0,s1,s4,s10,s11,rfl,s13,hR3,m5,(by first | omega | (simp only [iN];omega)),And.intro (by omega) (by rw [<- hA.2,Xc (p:=fun x=>bK x (Sort.swp d lo pv)[lo]!) c6n (VS c6)])⟩))))))))
 ·
  refine cI ?_
  repeat (first | refine bN ?_ | refine dC rfl ?_)
  refine dP ?_
  have hAe:u0=Sort.scanUp (fun x=>bK x (Sort.swp d lo pv)[lo]!) (Sort.swp d lo pv) (hi - 1) (lo+1):=by rw [<- hA.2,WL (p:=fun x=>bK x (Sort.swp d lo pv)[lo]!) c6]
  refine aF ?_
  refine aO (lp (fun m g W=>∃ v0:Nat,m=v0/\g 0=.slice (some ⟨b,0,none⟩) N c/\g 1=zi ((lo:Nat):Int)/\g 4=.func (.func 216) ([mO]).toArray ([]).toArray/\g 10=zi (0)/\g 11=.bool false/\g 12=zi ((u0:Nat):Int)/\g 13=zi ((v0:Nat):Int)/\Bk b (dE tl (Sort.swp d lo pv)) 112 W/\KM (·=b) w W/\(Sort.swp d lo pv).size=N/\((lo<=v0/\v0<=(hi - 1))/\Sort.scanDown (fun x=>!bK x (Sort.swp d lo pv)[lo]!) (Sort.swp d lo pv) u0 v0=Sort.scanDown (fun x=>!bK x (Sort.swp d lo pv)[lo]!) (Sort.swp d lo pv) u0 (hi - 1))) _ ⟨(hi - 1),rfl,s0,s1,s4,s10,s11,s12,s13,hR3,m5,(by first | omega | (simp only [iN];omega)),And.intro (by omega) rfl⟩ ?_)
  rintro m g7 w7 ⟨v0,hme7,s0,s1,s4,s10,s11,s12,s13,hR7,km7,hz7,hB⟩
  refine aF ?_
  refine sD (_::_::_::_::_::_::_::_::_::_::_::_::_::(GV (decide (u0<=v0)) (vE (zi (jN (((Sort.swp d lo pv)[v0]!).at_) (((Sort.swp d lo pv)[lo]!).at_)))))::_::_::_::[]) [(16,66)] [0,1,4,10,11,12,13] rfl ⟨aA,aA,aA,aA,aD aA,aD aA,aD aA,aD aA,aD aA,aD aA,aD aA,aD aA,aD aA,aD aA,aD aA,aD aA,aA,trivial⟩ (by kernel_rfl) rfl rfl (fun Sd=>⟨
   bF Sd rfl s12,
   bF Sd rfl s13,
   aP [0,1] Sd rfl fun h=>AI (a:=u0) (b:=v0) h.1 h.2.1,
   oW [(2,52)] [] Sd rfl fun _ _ _ h _=>dv aT h.1,
   iP Sd rfl s4,
   iP Sd rfl s0,
   iP Sd rfl s13,
   dM [5,6] Sd rfl fun e _ h=>bB underlying67 sizeOf112 (h.1.1 e) (h.2.1.1 e) (by have he:=aBp e;omega),
   dM [7] Sd rfl fun e hT h=>bQ (h.1.1 e) (lE hR7 hT (by have he:=aBp e;omega)) rfl,
   iP Sd rfl s0,
   iP Sd rfl s1,
   dM [9,10] Sd rfl fun e _ h=>bB underlying67 sizeOf112 (h.1.1 e) (h.2.1.1 e) (by have he:=aBp e;omega),
   dM [11] Sd rfl fun e hT h=>bQ (h.1.1 e) (lE hR7 hT (by have he:=aBp e;omega)) rfl,
   oT [(4,54),(8,58),(12,62)] [] Sd rfl i2 gU fun e _ _ _ h _=>dG e (II (fst:=[mO]) (h.1.1 e) (wO (a2 (h.2.1.1 e) (h.2.2.1.1 e))) oP (kO (Sort.swp d lo pv)[v0]! (Sort.swp d lo pv)[lo]! _)),
   dM [13] Sd rfl fun e _ h=>eT (h.1.1 e) rfl,
   dM [14] Sd rfl fun e _ h=>cJ (h.1.1 e),
   aP [3,15] Sd rfl fun h=>cG h.1 (fun c=>h.2.1.1 c),
   trivial⟩) ?_
  rintro g8 w8 k8 ⟨s66,-⟩ ⟨o0,o1,o4,o10,o11,o12,o13,-⟩
  have s0:=o0.trans s0
  have s1:=o1.trans s1
  have s4:=o4.trans s4
  have s10:=o10.trans s10
  have s11:=o11.trans s11
  have s12:=o12.trans s12
  have s13:=o13.trans s13
  have hR7:=hR7.below k8
  have m9:KM (·=b) w w8:=km7.below k8
  refine cd s66 (fun c10=>?_) (fun c10=>?_)
  ·
   have c10n:=aBp (Np c10)
   exact aG (aO (eO (bI s13 (sq (cS (a:=v0) (b:=1) rfl rfl (by omega)) (aW (zi ((v0 - 1:Nat):Int)) rfl (nl (pI (fC (by omega) ⟨(v0 - 1),rfl,s0,s1,s4,s10,s11,s12,rfl,hR7,m9,(by first | omega | (simp only [iN];omega)),And.intro (by omega) (by rw [<- hB.2,XR (p:=fun x=>!bK x (Sort.swp d lo pv)[lo]!) c10n (by omega) (VS c10)])⟩))))))))
  ·
   refine cI ?_
   repeat (first | refine bN ?_ | refine dC rfl ?_)
   refine dP ?_
   have hBe:v0=Sort.scanDown (fun x=>!bK x (Sort.swp d lo pv)[lo]!) (Sort.swp d lo pv) u0 (hi - 1):=by rw [<- hB.2,XF (p:=fun x=>!bK x (Sort.swp d lo pv)[lo]!) c10]
   refine aF (rg (bI s12 (bI s13 (sq (GS (a:=u0) (b:=v0) rfl rfl) (nx ?_)))))
   refine cd rfl (fun c11=>?_) (fun c11=>?_)
   ·
    have c11n:=aBp c11
    refine CP (fun _ _=>False) (eE (V:=_::_::_::_::_::_::_::_::_::_::_::_::_::(fun _ _=>True)::_::(fun _ _=>True)::[]) (M:=fun i=>i=b) (ch:=[13,15]) (L:=[fun W=>Bk b (dE tl (Sort.swp d lo pv)) 112 W,fun W=>Bk b (dE tl ((Sort.swp d lo pv).setIfInBounds v0 (Sort.swp d lo pv)[lo]!)) 112 W,fun W=>Bk b (dE tl (((Sort.swp d lo pv).setIfInBounds v0 (Sort.swp d lo pv)[lo]!).setIfInBounds lo (Sort.swp d lo pv)[v0]!)) 112 W]) rfl ⟨aC,aC,aC,aC,aC,aC,aC,aC,aC,aC,aC,aC,aC,fI,aC,fI,trivial⟩ rfl rfl rfl (by intro P hP a b h k;simp only [aC0,aBy,or_false] at hP;rcases hP with rfl | rfl | rfl <;> exact mQ h k)) [] [0,1,4,10,11,12,13] (by kernel_rfl) rfl rfl hR7 (fun _ _ _ h=>h.elim) (fun Sd=>⟨
     bF Sd rfl s0,
     bF Sd rfl s13,
     bF Sd rfl s0,
     bF Sd rfl s1,
     bF Sd rfl s0,
     bF Sd rfl s1,
     aP [4,5] Sd rfl fun h=>bB underlying67 sizeOf112 h.1 h.2.1 (by omega),
     ol [(6,78)] [] Sd rfl rfl rfl rfl (by rintro g1 w1 hT ⟨h6,-⟩ - hB0;exact dv (bQ h6 (fA hB0 (by omega)) rfl) rfl),
     bF Sd rfl s0,
     bF Sd rfl s13,
     aP [8,9] Sd rfl fun h=>bB underlying67 sizeOf112 h.1 h.2.1 (by omega),
     ol [(10,82)] [] Sd rfl rfl rfl rfl (by rintro g1 w1 hT ⟨h10,-⟩ - hB0;exact dv (bQ h10 (fA hB0 (by omega)) rfl) rfl),
     aP [0,1] Sd rfl fun h=>bB underlying67 sizeOf112 h.1 h.2.1 (by omega),
     oc 0 [(7,79),(12,84)] [] rfl rfl rfl (by rintro g1 w1 hT ⟨h7,h12,-⟩ - hB0;exact jF hB0 h12 h7 (by omega) (fun W hB9 O=>And.intro (aD0 O rfl) (And.intro True.intro hB9))),
     aP [2,3] Sd rfl fun h=>bB underlying67 sizeOf112 h.1 h.2.1 (by omega),
     oc 1 [(11,83),(14,85)] [] rfl rfl rfl (by rintro g1 w1 hT ⟨h11,h14,-⟩ - hB0;exact jF hB0 h14 h11 (by rw [EP];omega) (fun W hB9 O=>And.intro (aD0 O rfl) (And.intro True.intro hB9))),
     trivial⟩) ?_
    rintro g12 w12 k12 - ⟨o0,o1,o4,o10,o11,o12,o13,-⟩ hR12
    have hR12:Bk b (dE tl (Sort.swp (Sort.swp d lo pv) v0 lo)) 112 w12:=hR12
    have hz12:(Sort.swp (Sort.swp d lo pv) v0 lo).size=N:=by rw [iN];omega
    have s13:=o13.trans s13
    have m13:=m9.trans k12
    exact rg (bI s13 (aW (zi ((v0:Nat):Int)) rfl (bU (nx (aE (wJ (fn:=Tryz.f258) (R:=fun e W=>∃ v,e=.returned v/\KM (·=b) w W/\v=.tuple #[zi ((r.1:Nat):Int),.bool r.2.1]/\Bk b (dE tl r.2.2) 112 W/\r.2.2.size=N/\lo<=r.1/\r.1<hi) rfl ⟨_,rfl,m13,by rw [<- hr,pt_x hAe hBe c11n];exact ⟨pY rfl rfl,hR12,by simp only;omega,by simp only;omega,by simp only;omega⟩⟩))))))
   ·
    have c11n:=aBe c11
    refine aG ?_
    refine CP (fun _ _=>False) (eE (V:=_::_::_::_::_::_::_::_::_::_::_::_::_::(fun _ _=>True)::_::(fun _ _=>True)::[]) (M:=fun i=>i=b) (ch:=[13,15]) (L:=[fun W=>Bk b (dE tl (Sort.swp d lo pv)) 112 W,fun W=>Bk b (dE tl ((Sort.swp d lo pv).setIfInBounds u0 (Sort.swp d lo pv)[v0]!)) 112 W,fun W=>Bk b (dE tl (((Sort.swp d lo pv).setIfInBounds u0 (Sort.swp d lo pv)[v0]!).setIfInBounds v0 (Sort.swp d lo pv)[u0]!)) 112 W]) rfl ⟨aC,aC,aC,aC,aC,aC,aC,aC,aC,aC,aC,aC,aC,fI,aC,fI,trivial⟩ rfl rfl rfl (by intro P hP a b h k;simp only [aC0,aBy,or_false] at hP;rcases hP with rfl | rfl | rfl <;> exact mQ h k)) [] [0,1,4,10,11,12,13] (by kernel_rfl) rfl rfl hR7 (fun _ _ _ h=>h.elim) (fun Sd=>⟨
     bF Sd rfl s0,
     bF Sd rfl s12,
     bF Sd rfl s0,
     bF Sd rfl s13,
     bF Sd rfl s0,
     bF Sd rfl s13,
     aP [4,5] Sd rfl fun h=>bB underlying67 sizeOf112 h.1 h.2.1 (by omega),
     ol [(6,93)] [] Sd rfl rfl rfl rfl (by rintro g1 w1 hT ⟨h6,-⟩ - hB0;exact dv (bQ h6 (fA hB0 (by omega)) rfl) rfl),
     bF Sd rfl s0,
     bF Sd rfl s12,
     aP [8,9] Sd rfl fun h=>bB underlying67 sizeOf112 h.1 h.2.1 (by omega),
     ol [(10,97)] [] Sd rfl rfl rfl rfl (by rintro g1 w1 hT ⟨h10,-⟩ - hB0;exact dv (bQ h10 (fA hB0 (by omega)) rfl) rfl),
     aP [0,1] Sd rfl fun h=>bB underlying67 sizeOf112 h.1 h.2.1 (by omega),
     oc 0 [(7,94),(12,99)] [] rfl rfl rfl (by rintro g1 w1 hT ⟨h7,h12,-⟩ - hB0;exact jF hB0 h12 h7 (by omega) (fun W hB9 O=>And.intro (aD0 O rfl) (And.intro True.intro hB9))),
     aP [2,3] Sd rfl fun h=>bB underlying67 sizeOf112 h.1 h.2.1 (by omega),
     oc 1 [(11,98),(14,100)] [] rfl rfl rfl (by rintro g1 w1 hT ⟨h11,h14,-⟩ - hB0;exact jF hB0 h14 h11 (by rw [EP];omega) (fun W hB9 O=>And.intro (aD0 O rfl) (And.intro True.intro hB9))),
     trivial⟩) ?_
    rintro g14 w14 k14 - ⟨o0,o1,o4,o10,o11,o12,o13,-⟩ hR14
    have hR14:Bk b (dE tl (Sort.swp (Sort.swp d lo pv) u0 v0)) 112 w14:=hR14
    have hz14:(Sort.swp (Sort.swp d lo pv) u0 v0).size=N:=by rw [iN];omega
    have s0:=o0.trans s0
    have s1:=o1.trans s1
    have s4:=o4.trans s4
    have s10:=o10.trans s10
    have s11:=o11.trans s11
    have s12:=o12.trans s12
    have s13:=o13.trans s13
    have m15:=m9.trans k14
    refine rg (bI s12 (sq (cF (a:=u0) (b:=1) rfl rfl (by omega)) (aW (zi ((u0+1:Nat):Int)) rfl (nx (rg (bI s13 (sq (cS (a:=v0) (b:=1) rfl rfl (by omega)) (aW (zi ((v0 - 1:Nat):Int)) rfl (nx (aF ?_))))))))))
    refine aO (lp (fun m g W=>∃ i:Nat,∃ j:Nat,∃ y:Array aK,m=j+1 - i/\g 0=.slice (some ⟨b,0,none⟩) N c/\g 1=zi ((lo:Nat):Int)/\g 4=.func (.func 216) ([mO]).toArray ([]).toArray/\g 10=zi (0)/\g 11=.bool false/\g 12=zi ((i:Nat):Int)/\g 13=zi ((j:Nat):Int)/\Bk b (dE tl y) 112 W/\KM (·=b) w W/\y.size=N/\((lo<i/\i<=hi/\lo<=j/\j<hi)/\Sort.partLoop bK lo i j y=Sort.partLoop bK lo (u0+1) (v0 - 1) (Sort.swp (Sort.swp d lo pv) u0 v0))) _ ⟨(u0+1),(v0 - 1),(Sort.swp (Sort.swp d lo pv) u0 v0),rfl,s0,s1,s4,s10,s11,rfl,rfl,hR14,m15,(by first | omega | (simp only [iN];omega)),And.intro (by omega) rfl⟩ ?_)
    rintro m g16 w16 ⟨i,j,y,hme16,s0,s1,s4,s10,s11,s12,s13,hR16,km16,hz16,hP⟩
    refine aO (aF ?_)
    refine aO (lp (fun m g W=>∃ ku:Nat,m=j+1 - ku/\g 0=.slice (some ⟨b,0,none⟩) N c/\g 1=zi ((lo:Nat):Int)/\g 4=.func (.func 216) ([mO]).toArray ([]).toArray/\g 10=zi (0)/\g 11=.bool false/\g 12=zi ((ku:Nat):Int)/\g 13=zi ((j:Nat):Int)/\Bk b (dE tl y) 112 W/\KM (·=b) w W/\y.size=N/\((i<=ku/\(ku<=j+1\/ku=i))/\Sort.scanUp (fun x=>bK x y[lo]!) y j ku=Sort.scanUp (fun x=>bK x y[lo]!) y j i)) _ ⟨i,rfl,s0,s1,s4,s10,s11,s12,s13,hR16,km16,(by first | omega | (simp only [iN];omega)),And.intro (by omega) rfl⟩ ?_)
    rintro m g17 w17 ⟨ku,hme17,s0,s1,s4,s10,s11,s12,s13,hR17,km17,hz17,hU⟩
    refine aF ?_
    refine sD (_::_::_::_::_::_::_::_::_::_::_::_::_::(GV (decide (ku<=j)) (vE (zi (jN ((y[ku]!).at_) ((y[lo]!).at_)))))::_::_::[]) [(15,120)] [0,1,4,10,11,12,13] rfl ⟨aA,aA,aA,aA,aD aA,aD aA,aD aA,aD aA,aD aA,aD aA,aD aA,aD aA,aD aA,aD aA,aD aA,aA,trivial⟩ (by kernel_rfl) rfl rfl (fun Sd=>⟨
     bF Sd rfl s12,
     bF Sd rfl s13,
     aP [0,1] Sd rfl fun h=>AI (a:=ku) (b:=j) h.1 h.2.1,
     oW [(2,107)] [] Sd rfl fun _ _ _ h _=>dv aT h.1,
     iP Sd rfl s4,
     iP Sd rfl s0,
     iP Sd rfl s12,
     dM [5,6] Sd rfl fun e _ h=>bB underlying67 sizeOf112 (h.1.1 e) (h.2.1.1 e) (by have he:=aBp e;omega),
     dM [7] Sd rfl fun e hT h=>bQ (h.1.1 e) (lE hR17 hT (by have he:=aBp e;omega)) rfl,
     iP Sd rfl s0,
     iP Sd rfl s1,
     dM [9,10] Sd rfl fun e _ h=>bB underlying67 sizeOf112 (h.1.1 e) (h.2.1.1 e) (by have he:=aBp e;omega),
     dM [11] Sd rfl fun e hT h=>bQ (h.1.1 e) (lE hR17 hT (by have he:=aBp e;omega)) rfl,
     oT [(4,109),(8,113),(12,117)] [] Sd rfl i2 gU fun e _ _ _ h _=>dG e (II (fst:=[mO]) (h.1.1 e) (wO (a2 (h.2.1.1 e) (h.2.2.1.1 e))) oP (kO y[ku]! y[lo]! _)),
     dM [13] Sd rfl fun e _ h=>eT (h.1.1 e) rfl,
     aP [3,14] Sd rfl fun h=>cG h.1 (fun c=>h.2.1.1 c),
     trivial⟩) ?_
    rintro g18 w18 k18 ⟨s120,-⟩ ⟨o0,o1,o4,o10,o11,o12,o13,-⟩
    have s0:=o0.trans s0
    have s1:=o1.trans s1
    have s4:=o4.trans s4
    have s10:=o10.trans s10
    have s11:=o11.trans s11
    have s12:=o12.trans s12
    have s13:=o13.trans s13
    have hR17:=hR17.below k18
    have m19:KM (·=b) w w18:=km17.below k18
    refine cd s120 (fun c20=>?_) (fun c20=>?_)
    ·
     have c20n:=aBp (Np c20)
     exact aG (aO (eO (bI s12 (sq (cF (a:=ku) (b:=1) rfl rfl (by omega)) (aW (zi ((ku+1:Nat):Int)) rfl (nl (pI (fC (by omega) ⟨(ku+1),rfl,s0,s1,s4,s10,s11,rfl,s13,hR17,m19,(by first | omega | (simp only [iN];omega)),And.intro (by omega) (by rw [<- hU.2,Xc (p:=fun x=>bK x y[lo]!) c20n (VS c20)])⟩))))))))
    ·
     refine cI ?_
     repeat (first | refine bN ?_ | refine dC rfl ?_)
     refine dP ?_
     have hUe:ku=Sort.scanUp (fun x=>bK x y[lo]!) y j i:=by rw [<- hU.2,WL (p:=fun x=>bK x y[lo]!) c20]
     refine aF ?_
     refine aO (lp (fun m g W=>∃ kv:Nat,m=kv/\g 0=.slice (some ⟨b,0,none⟩) N c/\g 1=zi ((lo:Nat):Int)/\g 4=.func (.func 216) ([mO]).toArray ([]).toArray/\g 10=zi (0)/\g 11=.bool false/\g 12=zi ((ku:Nat):Int)/\g 13=zi ((kv:Nat):Int)/\Bk b (dE tl y) 112 W/\KM (·=b) w W/\y.size=N/\((lo<=kv/\kv<=j)/\Sort.scanDown (fun x=>!bK x y[lo]!) y ku kv=Sort.scanDown (fun x=>!bK x y[lo]!) y ku j)) _ ⟨j,rfl,s0,s1,s4,s10,s11,s12,s13,hR17,m19,(by first | omega | (simp only [iN];omega)),And.intro (by omega) rfl⟩ ?_)
     rintro m g21 w21 ⟨kv,hme21,s0,s1,s4,s10,s11,s12,s13,hR21,km21,hz21,hV⟩
     refine aF ?_
     refine sD (_::_::_::_::_::_::_::_::_::_::_::_::_::(GV (decide (ku<=kv)) (vE (zi (jN ((y[kv]!).at_) ((y[lo]!).at_)))))::_::_::_::[]) [(16,139)] [0,1,4,10,11,12,13] rfl ⟨aA,aA,aA,aA,aD aA,aD aA,aD aA,aD aA,aD aA,aD aA,aD aA,aD aA,aD aA,aD aA,aD aA,aD aA,aA,trivial⟩ (by kernel_rfl) rfl rfl (fun Sd=>⟨
      bF Sd rfl s12,
      bF Sd rfl s13,
      aP [0,1] Sd rfl fun h=>AI (a:=ku) (b:=kv) h.1 h.2.1,
      oW [(2,125)] [] Sd rfl fun _ _ _ h _=>dv aT h.1,
      iP Sd rfl s4,
      iP Sd rfl s0,
      iP Sd rfl s13,
      dM [5,6] Sd rfl fun e _ h=>bB underlying67 sizeOf112 (h.1.1 e) (h.2.1.1 e) (by have he:=aBp e;omega),
      dM [7] Sd rfl fun e hT h=>bQ (h.1.1 e) (lE hR21 hT (by have he:=aBp e;omega)) rfl,
      iP Sd rfl s0,
      iP Sd rfl s1,
      dM [9,10] Sd rfl fun e _ h=>bB underlying67 sizeOf112 (h.1.1 e) (h.2.1.1 e) (by have he:=aBp e;omega),
      dM [11] Sd rfl fun e hT h=>bQ (h.1.1 e) (lE hR21 hT (by have he:=aBp e;omega)) rfl,
      oT [(4,127),(8,131),(12,135)] [] Sd rfl i2 gU fun e _ _ _ h _=>dG e (II (fst:=[mO]) (h.1.1 e) (wO (a2 (h.2.1.1 e) (h.2.2.1.1 e))) oP (kO y[kv]! y[lo]! _)),
      dM [13] Sd rfl fun e _ h=>eT (h.1.1 e) rfl,
      dM [14] Sd rfl fun e _ h=>cJ (h.1.1 e),
      aP [3,15] Sd rfl fun h=>cG h.1 (fun c=>h.2.1.1 c),
      trivial⟩) ?_
     rintro g22 w22 k22 ⟨s139,-⟩ ⟨o0,o1,o4,o10,o11,o12,o13,-⟩
     have s0:=o0.trans s0
     have s1:=o1.trans s1
     have s4:=o4.trans s4
     have s10:=o10.trans s10
     have s11:=o11.trans s11
     have s12:=o12.trans s12
     have s13:=o13.trans s13
     have hR21:=hR21.below k22
     have m23:KM (·=b) w w22:=km21.below k22
     refine cd s139 (fun c24=>?_) (fun c24=>?_)
     ·
      have c24n:=aBp (Np c24)
      exact aG (aO (eO (bI s13 (sq (cS (a:=kv) (b:=1) rfl rfl (by omega)) (aW (zi ((kv - 1:Nat):Int)) rfl (nl (pI (fC (by omega) ⟨(kv - 1),rfl,s0,s1,s4,s10,s11,s12,rfl,hR21,m23,(by first | omega | (simp only [iN];omega)),And.intro (by omega) (by rw [<- hV.2,XR (p:=fun x=>!bK x y[lo]!) c24n (by omega) (VS c24)])⟩))))))))
     ·
      refine cI ?_
      repeat (first | refine bN ?_ | refine dC rfl ?_)
      refine dP ?_
      have hVe:kv=Sort.scanDown (fun x=>!bK x y[lo]!) y ku j:=by rw [<- hV.2,XF (p:=fun x=>!bK x y[lo]!) c24]
      refine aF (rg (bI s12 (bI s13 (sq (GS (a:=ku) (b:=kv) rfl rfl) (nx ?_)))))
      refine cd rfl (fun c25=>?_) (fun c25=>?_)
      ·
       have c25n:=aBp c25
       refine cI ?_
       repeat (first | refine bN ?_ | refine dC rfl ?_)
       refine dP ?_
       refine CP (fun _ _=>False) (eE (V:=_::_::_::_::_::_::_::_::_::_::_::_::_::(fun _ _=>True)::_::(fun _ _=>True)::[]) (M:=fun i=>i=b) (ch:=[13,15]) (L:=[fun W=>Bk b (dE tl y) 112 W,fun W=>Bk b (dE tl (y.setIfInBounds kv y[lo]!)) 112 W,fun W=>Bk b (dE tl ((y.setIfInBounds kv y[lo]!).setIfInBounds lo y[kv]!)) 112 W]) rfl ⟨aC,aC,aC,aC,aC,aC,aC,aC,aC,aC,aC,aC,aC,fI,aC,fI,trivial⟩ rfl rfl rfl (by intro P hP a b h k;simp only [aC0,aBy,or_false] at hP;rcases hP with rfl | rfl | rfl <;> exact mQ h k)) [] [10,11,13] (by kernel_rfl) rfl rfl hR21 (fun _ _ _ h=>h.elim) (fun Sd=>⟨
        bF Sd rfl s0,
        bF Sd rfl s13,
        bF Sd rfl s0,
        bF Sd rfl s1,
        bF Sd rfl s0,
        bF Sd rfl s1,
        aP [4,5] Sd rfl fun h=>bB underlying67 sizeOf112 h.1 h.2.1 (by omega),
        ol [(6,169)] [] Sd rfl rfl rfl rfl (by rintro g1 w1 hT ⟨h6,-⟩ - hB0;exact dv (bQ h6 (fA hB0 (by omega)) rfl) rfl),
        bF Sd rfl s0,
        bF Sd rfl s13,
        aP [8,9] Sd rfl fun h=>bB underlying67 sizeOf112 h.1 h.2.1 (by omega),
        ol [(10,173)] [] Sd rfl rfl rfl rfl (by rintro g1 w1 hT ⟨h10,-⟩ - hB0;exact dv (bQ h10 (fA hB0 (by omega)) rfl) rfl),
        aP [0,1] Sd rfl fun h=>bB underlying67 sizeOf112 h.1 h.2.1 (by omega),
        oc 0 [(7,170),(12,175)] [] rfl rfl rfl (by rintro g1 w1 hT ⟨h7,h12,-⟩ - hB0;exact jF hB0 h12 h7 (by omega) (fun W hB9 O=>And.intro (aD0 O rfl) (And.intro True.intro hB9))),
        aP [2,3] Sd rfl fun h=>bB underlying67 sizeOf112 h.1 h.2.1 (by omega),
        oc 1 [(11,174),(14,176)] [] rfl rfl rfl (by rintro g1 w1 hT ⟨h11,h14,-⟩ - hB0;exact jF hB0 h14 h11 (by rw [EP];omega) (fun W hB9 O=>And.intro (aD0 O rfl) (And.intro True.intro hB9))),
        trivial⟩) ?_
       rintro g26 w26 k26 - ⟨o10,o11,o13,-⟩ hR26
       have hR26:Bk b (dE tl (Sort.swp y kv lo)) 112 w26:=hR26
       have hz26:(Sort.swp y kv lo).size=N:=by rw [iN];omega
       have s13:=o13.trans s13
       have m27:=m23.trans k26
       exact rg (bI s13 (aW (zi ((kv:Nat):Int)) rfl (bU (nx (aE (wJ (fn:=Tryz.f258) (R:=fun e W=>∃ v,e=.returned v/\KM (·=b) w W/\v=.tuple #[zi ((r.1:Nat):Int),.bool r.2.1]/\Bk b (dE tl r.2.2) 112 W/\r.2.2.size=N/\lo<=r.1/\r.1<hi) rfl ⟨_,rfl,m27,by rw [<- hr,pt_s hAe hBe c11n,<- hP.2,pl_x hUe hVe c25n];exact ⟨pY rfl rfl,hR26,by simp only;omega,by simp only;omega,by simp only;omega⟩⟩))))))
      ·
       have c25n:=aBe c25
       refine aG ?_
       refine CP (fun _ _=>False) (eE (V:=_::_::_::_::_::_::_::_::_::_::_::_::_::(fun _ _=>True)::_::(fun _ _=>True)::[]) (M:=fun i=>i=b) (ch:=[13,15]) (L:=[fun W=>Bk b (dE tl y) 112 W,fun W=>Bk b (dE tl (y.setIfInBounds ku y[kv]!)) 112 W,fun W=>Bk b (dE tl ((y.setIfInBounds ku y[kv]!).setIfInBounds kv y[ku]!)) 112 W]) rfl ⟨aC,aC,aC,aC,aC,aC,aC,aC,aC,aC,aC,aC,aC,fI,aC,fI,trivial⟩ rfl rfl rfl (by intro P hP a b h k;simp only [aC0,aBy,or_false] at hP;rcases hP with rfl | rfl | rfl <;> exact mQ h k)) [] [0,1,4,10,11,12,13] (by kernel_rfl) rfl rfl hR21 (fun _ _ _ h=>h.elim) (fun Sd=>⟨
        bF Sd rfl s0,
        bF Sd rfl s12,
        bF Sd rfl s0,
        bF Sd rfl s13,
        bF Sd rfl s0,
        bF Sd rfl s13,
        aP [4,5] Sd rfl fun h=>bB underlying67 sizeOf112 h.1 h.2.1 (by omega),
        ol [(6,151)] [] Sd rfl rfl rfl rfl (by rintro g1 w1 hT ⟨h6,-⟩ - hB0;exact dv (bQ h6 (fA hB0 (by omega)) rfl) rfl),
        bF Sd rfl s0,
        bF Sd rfl s12,
        aP [8,9] Sd rfl fun h=>bB underlying67 sizeOf112 h.1 h.2.1 (by omega),
        ol [(10,155)] [] Sd rfl rfl rfl rfl (by rintro g1 w1 hT ⟨h10,-⟩ - hB0;exact dv (bQ h10 (fA hB0 (by omega)) rfl) rfl),
        aP [0,1] Sd rfl fun h=>bB underlying67 sizeOf112 h.1 h.2.1 (by omega),
        oc 0 [(7,152),(12,157)] [] rfl rfl rfl (by rintro g1 w1 hT ⟨h7,h12,-⟩ - hB0;exact jF hB0 h12 h7 (by omega) (fun W hB9 O=>And.intro (aD0 O rfl) (And.intro True.intro hB9))),
        aP [2,3] Sd rfl fun h=>bB underlying67 sizeOf112 h.1 h.2.1 (by omega),
        oc 1 [(11,156),(14,158)] [] rfl rfl rfl (by rintro g1 w1 hT ⟨h11,h14,-⟩ - hB0;exact jF hB0 h14 h11 (by rw [EP];omega) (fun W hB9 O=>And.intro (aD0 O rfl) (And.intro True.intro hB9))),
        trivial⟩) ?_
       rintro g28 w28 k28 - ⟨o0,o1,o4,o10,o11,o12,o13,-⟩ hR28
       have hR28:Bk b (dE tl (Sort.swp y ku kv)) 112 w28:=hR28
       have hz28:(Sort.swp y ku kv).size=N:=by rw [iN];omega
       have s0:=o0.trans s0
       have s1:=o1.trans s1
       have s4:=o4.trans s4
       have s10:=o10.trans s10
       have s11:=o11.trans s11
       have s12:=o12.trans s12
       have s13:=o13.trans s13
       have m29:=m23.trans k28
       exact rg (bI s12 (sq (cF (a:=ku) (b:=1) rfl rfl (by omega)) (aW (zi ((ku+1:Nat):Int)) rfl (nx (eO (bI s13 (sq (cS (a:=kv) (b:=1) rfl rfl (by omega)) (aW (zi ((kv - 1:Nat):Int)) rfl (nl (pI (fC (by omega) ⟨(ku+1),(kv - 1),(Sort.swp y ku kv),rfl,s0,s1,s4,s10,s11,rfl,rfl,hR28,m29,(by first | omega | (simp only [iN];omega)),And.intro (by omega) (by rw [<- hP.2];exact (pl_s hUe hVe c25n (by omega)).symm)⟩)))))))))))
section
variable {d z x:Array aK} {a b i j k u:Nat}
theorem ss_t (h:i<b) (h2:(!bK d[i]! d[i - 1]!)=true):Sort.scanSorted bK d b i=Sort.scanSorted bK d b (i+1):=by rw [Sort.scanSorted,aEc (by simp at h2;simp [h,h2])]
theorem ss_f (h:(decide (i<b)&&!bK d[i]! d[i - 1]!)=false):Sort.scanSorted bK d b i=i:=by rw [Sort.scanSorted,aEd (by rw [h];exact aBf)]
theorem aAm (h:¬ 1<=j):Sort.shiftDown bK j d=d:=by
 obtain rfl:j=0:=by omega
 rfl
theorem ZH (h:(!bK d[j]! d[j - 1]!)=true):Sort.shiftDown bK j d=d:=by
 cases j with
 | zero=>rfl
 | succ j=>rw [Sort.shiftDown,aEc (show (!bK d[j+1]! d[j]!)=true from h)]
theorem ZF (h0:1<=j) (h:(!bK d[j]! d[j - 1]!)=false):Sort.shiftDown bK j d=Sort.shiftDown bK (j - 1) (Sort.swp d j (j - 1)):=by
 cases j with
 | zero=>omega
 | succ j=>rw [Sort.shiftDown,aEd (show ¬ (!bK d[j+1]! d[j]!)=true from by rw [Bool.not_eq_true];exact h)];rfl
theorem aAo (h:¬ j<b):Sort.shiftUp bK b j d=d:=by rw [Sort.shiftUp,aEd h]
theorem shU_b (h0:j<b) (h:(!bK d[j]! d[j - 1]!)=true):Sort.shiftUp bK b j d=d:=by rw [Sort.shiftUp,aEc h0,aEc h]
theorem shU_s (h0:j<b) (h:(!bK d[j]! d[j - 1]!)=false):Sort.shiftUp bK b j d=Sort.shiftUp bK b (j+1) (Sort.swp d j (j - 1)):=by rw [Sort.shiftUp,aEc h0,aEd (by rw [h];exact aBf)]
theorem pi_0 (h:¬ k<5):Sort.partialIns bK a b (5 - k) i d=(d,false):=by rw [show 5 - k=0 by omega];rfl
theorem pi_t (h:k<5) (hu:u=Sort.scanSorted bK d b i) (he:u=b):Sort.partialIns bK a b (5 - k) i d=(d,true):=by
 rw [show 5 - k=(5 - (k+1))+1 by omega,Sort.partialIns];simp only [<- hu];rw [aEc he]
theorem pi_50 (h:k<5) (hu:u=Sort.scanSorted bK d b i) (he:¬ u=b) (h5:b - a<50):Sort.partialIns bK a b (5 - k) i d=(d,false):=by
 rw [show 5 - k=(5 - (k+1))+1 by omega,Sort.partialIns];simp only [<- hu];rw [aEd he,aEc h5]
theorem pi_s (h:k<5) (hu:u=Sort.scanSorted bK d b i) (he:¬ u=b) (h5:¬ b - a<50) (hz:z=if 2<=u - a then Sort.shiftDown bK (u - 1) (Sort.swp d u (u - 1)) else Sort.swp d u (u - 1)) (hx:x=if 2<=b - u then Sort.shiftUp bK b (u+1) z else z):Sort.partialIns bK a b (5 - k) i d=Sort.partialIns bK a b (5 - (k+1)) u x:=by
 rw [show 5 - k=(5 - (k+1))+1 by omega,Sort.partialIns];simp only [<- hu,ge_iff_le];rw [aEd he,aEd h5,<- hz,<- hx]
end
theorem Xn (b c N) (d) (lo hi) (w) (hR:Bk b (dE tl d) 112 w) (hz:d.size=N) (hN:N<=1000000) (h1:lo<hi) (h2:hi<=N) (r:Array aK × Bool) (hr:Sort.partialInsertionSort bK d lo hi=r):jP (·=b) 256 [.slice (some ⟨b,0,none⟩) N c,zi (lo:Int),zi (hi:Int),FV] w fun v W=>v=.bool r.2/\Bk b (dE tl r.1) 112 W/\r.1.size=N:=by
 refine aJ (n:=141) func256 rfl ntmps256 (aA1 rfl) (rg (bU (nx (rg (aN (zi ((lo:Nat):Int)) rfl (sq (cF (a:=lo) (b:=1) rfl rfl (by omega)) (aW (zi ((lo+1:Nat):Int)) rfl (nx (aF (rg (bU (nx ?_))))))))))))
 refine aO (lp (fun m g W=>∃ k:Nat,∃ i:Nat,∃ y:Array aK,m=5 - k/\g 0=.slice (some ⟨b,0,none⟩) N c/\g 1=zi ((lo:Nat):Int)/\g 2=zi ((hi:Nat):Int)/\g 3=.func (.func 216) ([mO]).toArray ([]).toArray/\g 8=.bool false/\g 9=zi ((i:Nat):Int)/\g 10=zi ((k:Nat):Int)/\Bk b (dE tl y) 112 W/\KM (·=b) w W/\y.size=N/\((k<=5/\lo<i/\i<=hi)/\Sort.partialIns bK lo hi (5 - k) i y=Sort.partialInsertionSort bK d lo hi)) _ ⟨0,(lo+1),d,rfl,rfl,rfl,rfl,rfl,rfl,rfl,rfl,hR,(aD8 _ _),(by first | omega | (simp only [iN];omega)),And.intro (by omega) rfl⟩ ?_)
 rintro m g1 w1 ⟨k,i,y,hme1,s0,s1,s2,s3,s8,s9,s10,hR1,km1,hz1,hP⟩
 refine aF (rg (bI s10 (sq (AD (a:=k) (b:=5) rfl rfl) (nx ?_))))
 refine cd rfl (fun c2=>?_) (fun c2=>?_)
 ·
  have c2n:=aBp c2
  refine aG (aF (aO (aF ?_)))
  refine aO (lp (fun m g W=>∃ u:Nat,m=hi - u/\g 0=.slice (some ⟨b,0,none⟩) N c/\g 1=zi ((lo:Nat):Int)/\g 2=zi ((hi:Nat):Int)/\g 3=.func (.func 216) ([mO]).toArray ([]).toArray/\g 8=.bool false/\g 9=zi ((u:Nat):Int)/\g 10=zi ((k:Nat):Int)/\Bk b (dE tl y) 112 W/\KM (·=b) w W/\y.size=N/\((lo<u/\u<=hi)/\Sort.scanSorted bK y hi u=Sort.scanSorted bK y hi i)) _ ⟨i,rfl,s0,s1,s2,s3,s8,s9,s10,hR1,km1,(by first | omega | (simp only [iN];omega)),And.intro (by omega) rfl⟩ ?_)
  rintro m g3 w3 ⟨u,hme3,s0,s1,s2,s3,s8,s9,s10,hR3,km3,hz3,hU⟩
  refine aF ?_
  refine sD (_::_::_::_::_::_::_::_::_::_::_::_::_::_::(GV (decide (u<hi)) (vE (zi (jN ((y[u]!).at_) ((y[u - 1]!).at_)))))::_::_::_::[]) [(17,36)] [0,1,2,3,8,9,10] rfl ⟨aA,aA,aA,aA,aD aA,aD aA,aD aA,aD aA,aD aA,aD aA,aD aA,aD aA,aD aA,aD aA,aD aA,aD aA,aD aA,aA,trivial⟩ (by kernel_rfl) rfl rfl (fun Sd=>⟨
   bF Sd rfl s9,
   bF Sd rfl s2,
   aP [0,1] Sd rfl fun h=>AD (a:=u) (b:=hi) h.1 h.2.1,
   oW [(2,21)] [] Sd rfl fun _ _ _ h _=>dv aT h.1,
   iP Sd rfl s3,
   iP Sd rfl s0,
   iP Sd rfl s9,
   dM [5,6] Sd rfl fun e _ h=>bB underlying67 sizeOf112 (h.1.1 e) (h.2.1.1 e) (by have he:=aBp e;omega),
   dM [7] Sd rfl fun e hT h=>bQ (h.1.1 e) (lE hR3 hT (by have he:=aBp e;omega)) rfl,
   iP Sd rfl s0,
   iP Sd rfl s9,
   dM [10] Sd rfl fun e _ h=>cS (a:=u) (b:=1) (h.1.1 e) rfl (by have he:=aBp e;omega),
   dM [9,11] Sd rfl fun e _ h=>bB underlying67 sizeOf112 (h.1.1 e) (h.2.1.1 e) (by have he:=aBp e;omega),
   dM [12] Sd rfl fun e hT h=>bQ (h.1.1 e) (lE hR3 hT (by have he:=aBp e;omega)) rfl,
   oT [(4,23),(8,27),(13,32)] [] Sd rfl i2 gU fun e _ _ _ h _=>dG e (II (fst:=[mO]) (h.1.1 e) (wO (a2 (h.2.1.1 e) (h.2.2.1.1 e))) oP (kO y[u]! y[u - 1]! _)),
   dM [14] Sd rfl fun e _ h=>eT (h.1.1 e) rfl,
   dM [15] Sd rfl fun e _ h=>cJ (h.1.1 e),
   aP [3,16] Sd rfl fun h=>cG h.1 (fun c=>h.2.1.1 c),
   trivial⟩) ?_
  rintro g4 w4 k4 ⟨s36,-⟩ ⟨o0,o1,o2,o3,o8,o9,o10,-⟩
  have s0:=o0.trans s0
  have s1:=o1.trans s1
  have s2:=o2.trans s2
  have s3:=o3.trans s3
  have s8:=o8.trans s8
  have s9:=o9.trans s9
  have s10:=o10.trans s10
  have hR3:=hR3.below k4
  have m5:KM (·=b) w w4:=km3.below k4
  refine cd s36 (fun c6=>?_) (fun c6=>?_)
  ·
   have c6n:=aBp (Np c6)
   exact aG (aO (eO (bI s9 (sq (cF (a:=u) (b:=1) rfl rfl (by omega)) (aW (zi ((u+1:Nat):Int)) rfl (nl (pI (fC (by omega) ⟨(u+1),rfl,s0,s1,s2,s3,s8,rfl,s10,hR3,m5,(by first | omega | (simp only [iN];omega)),And.intro (by omega) (by rw [<- hU.2,ss_t c6n (VS c6)])⟩))))))))
  ·
   refine cI ?_
   repeat (first | refine bN ?_ | refine dC rfl ?_)
   refine dP ?_
   have hUe:u=Sort.scanSorted bK y hi i:=by rw [<- hU.2,ss_f c6]
   refine aF (rg (bI s9 (bI s2 (sq (AL (a:=u) (b:=hi) rfl rfl) (nx ?_)))))
   refine cd rfl (fun c7=>?_) (fun c7=>?_)
   ·
    have c7n:=aBp c7
    exact rg (bU (nx (aE (fO (fn:=Tryz.f256) (R:=fun e W=>∃ v,e=.returned v/\KM (·=b) w W/\v=.bool r.2/\Bk b (dE tl r.1) 112 W/\r.1.size=N) rfl ⟨_,rfl,m5,by rw [<- hr,<- hP.2,pi_t c2n hUe c7n];exact ⟨rfl,hR3,by simp only;omega⟩⟩))))
   ·
    have c7n:=aBe c7
    refine aG (aF (rg (bI s2 (bI s1 (sq (cS (a:=hi) (b:=lo) rfl rfl (by omega)) (sq (AD (a:=hi - lo) (b:=50) rfl rfl) (nx ?_)))))))
    refine cd rfl (fun c8=>?_) (fun c8=>?_)
    ·
     have c8n:=aBp c8
     exact rg (bU (nx (aE (fO (fn:=Tryz.f256) (R:=fun e W=>∃ v,e=.returned v/\KM (·=b) w W/\v=.bool r.2/\Bk b (dE tl r.1) 112 W/\r.1.size=N) rfl ⟨_,rfl,m5,by rw [<- hr,<- hP.2,pi_50 c2n hUe c7n c8n];exact ⟨rfl,hR3,by simp only;omega⟩⟩))))
    ·
     have c8n:=aBe c8
     refine aG ?_
     refine CP (fun _ _=>False) (eE (V:=_::_::_::_::_::_::_::_::_::_::_::_::_::_::_::(fun _ _=>True)::_::(fun _ _=>True)::[]) (M:=fun i=>i=b) (ch:=[15,17]) (L:=[fun W=>Bk b (dE tl y) 112 W,fun W=>Bk b (dE tl (y.setIfInBounds u y[u - 1]!)) 112 W,fun W=>Bk b (dE tl ((y.setIfInBounds u y[u - 1]!).setIfInBounds (u - 1) y[u]!)) 112 W]) rfl ⟨aC,aC,aC,aC,aC,aC,aC,aC,aC,aC,aC,aC,aC,aC,aC,fI,aC,fI,trivial⟩ rfl rfl rfl (by intro P hP a b h k;simp only [aC0,aBy,or_false] at hP;rcases hP with rfl | rfl | rfl <;> exact mQ h k)) [] [0,1,2,3,8,9,10] (by kernel_rfl) rfl rfl hR3 (fun _ _ _ h=>h.elim) (fun Sd=>⟨
      bF Sd rfl s0,
      bF Sd rfl s9,
      bF Sd rfl s0,
      bF Sd rfl s9,
      aP [3] Sd rfl fun h=>cS (a:=u) (b:=1) h.1 rfl (by omega),
      bF Sd rfl s0,
      bF Sd rfl s9,
      aP [6] Sd rfl fun h=>cS (a:=u) (b:=1) h.1 rfl (by omega),
      aP [5,7] Sd rfl fun h=>bB underlying67 sizeOf112 h.1 h.2.1 (by omega),
      ol [(8,54)] [] Sd rfl rfl rfl rfl (by rintro g1 w1 hT ⟨h8,-⟩ - hB0;exact dv (bQ h8 (fA hB0 (by omega)) rfl) rfl),
      bF Sd rfl s0,
      bF Sd rfl s9,
      aP [10,11] Sd rfl fun h=>bB underlying67 sizeOf112 h.1 h.2.1 (by omega),
      ol [(12,58)] [] Sd rfl rfl rfl rfl (by rintro g1 w1 hT ⟨h12,-⟩ - hB0;exact dv (bQ h12 (fA hB0 (by omega)) rfl) rfl),
      aP [0,1] Sd rfl fun h=>bB underlying67 sizeOf112 h.1 h.2.1 (by omega),
      oc 0 [(9,55),(14,60)] [] rfl rfl rfl (by rintro g1 w1 hT ⟨h9,h14,-⟩ - hB0;exact jF hB0 h14 h9 (by omega) (fun W hB9 O=>And.intro (aD0 O rfl) (And.intro True.intro hB9))),
      aP [2,4] Sd rfl fun h=>bB underlying67 sizeOf112 h.1 h.2.1 (by omega),
      oc 1 [(13,59),(16,61)] [] rfl rfl rfl (by rintro g1 w1 hT ⟨h13,h16,-⟩ - hB0;exact jF hB0 h16 h13 (by rw [EP];omega) (fun W hB9 O=>And.intro (aD0 O rfl) (And.intro True.intro hB9))),
      trivial⟩) ?_
     rintro g9 w9 k9 - ⟨o0,o1,o2,o3,o8,o9,o10,-⟩ hR9
     have hR9:Bk b (dE tl (Sort.swp y u (u - 1))) 112 w9:=hR9
     have hz9:(Sort.swp y u (u - 1)).size=N:=by rw [iN];omega
     have s0:=o0.trans s0
     have s1:=o1.trans s1
     have s2:=o2.trans s2
     have s3:=o3.trans s3
     have s8:=o8.trans s8
     have s9:=o9.trans s9
     have s10:=o10.trans s10
     have m10:=m5.trans k9
     refine aF (rg (bI s9 (bI s1 (sq (cS (a:=u) (b:=lo) rfl rfl (by omega)) (sq (uJ (a:=u - lo) (b:=2) rfl rfl) (nx ?_))))))
     refine Gs (fun g W=>∃ z0:Array aK,g 0=.slice (some ⟨b,0,none⟩) N c/\g 1=zi ((lo:Nat):Int)/\g 2=zi ((hi:Nat):Int)/\g 3=.func (.func 216) ([mO]).toArray ([]).toArray/\g 8=.bool false/\g 9=zi ((u:Nat):Int)/\g 10=zi ((k:Nat):Int)/\Bk b (dE tl z0) 112 W/\KM (·=b) w W/\z0.size=N/\z0=if 2<=u - lo then Sort.shiftDown bK (u - 1) (Sort.swp y u (u - 1)) else (Sort.swp y u (u - 1))) ?_ ?_
     ·
      refine cd rfl (fun c11=>?_) (fun c11=>?_)
      ·
       have c11n:=aBp c11
       refine rg (bI s9 (sq (cS (a:=u) (b:=1) rfl rfl (by omega)) (aW (zi ((u - 1:Nat):Int)) rfl (nx ?_))))
       refine aO (lp (fun m g W=>∃ j:Nat,∃ x:Array aK,m=j/\g 0=.slice (some ⟨b,0,none⟩) N c/\g 1=zi ((lo:Nat):Int)/\g 2=zi ((hi:Nat):Int)/\g 3=.func (.func 216) ([mO]).toArray ([]).toArray/\g 8=.bool false/\g 9=zi ((u:Nat):Int)/\g 10=zi ((k:Nat):Int)/\g 11=zi ((j:Nat):Int)/\Bk b (dE tl x) 112 W/\KM (·=b) w W/\x.size=N/\(j<u/\Sort.shiftDown bK j x=Sort.shiftDown bK (u - 1) (Sort.swp y u (u - 1)))) _ ⟨(u - 1),(Sort.swp y u (u - 1)),rfl,s0,s1,s2,s3,s8,s9,s10,rfl,hR9,m10,(by first | omega | (simp only [iN];omega)),And.intro (by omega) rfl⟩ ?_)
       rintro m g12 w12 ⟨j,x,hme12,s0,s1,s2,s3,s8,s9,s10,s11,hR12,km12,hz12,hD⟩
       refine aF (rg (bI s11 (sq (uJ (a:=j) (b:=1) rfl rfl) (nx ?_))))
       refine cd rfl (fun c13=>?_) (fun c13=>?_)
       ·
        have c13n:=aBp c13
        refine aG (aF (aO (aF ?_)))
        refine sD (_::_::_::_::_::_::_::_::_::_::(vE (zi (jN ((x[j]!).at_) ((x[j - 1]!).at_))))::_::_::[]) [(12,84)] [0,1,2,3,8,9,10,11] rfl ⟨aA,aA,aA,aA,aA,aA,aA,aA,aA,aA,aA,aA,aA,trivial⟩ (by kernel_rfl) rfl rfl (fun Sd=>⟨
         bF Sd rfl s3,
         bF Sd rfl s0,
         bF Sd rfl s11,
         aP [1,2] Sd rfl fun h=>bB underlying67 sizeOf112 h.1 h.2.1 (by omega),
         fY [3] Sd rfl fun hT h=>bQ h.1 (lE hR12 hT (by omega)) rfl,
         bF Sd rfl s0,
         bF Sd rfl s11,
         aP [6] Sd rfl fun h=>cS (a:=j) (b:=1) h.1 rfl (by omega),
         aP [5,7] Sd rfl fun h=>bB underlying67 sizeOf112 h.1 h.2.1 (by omega),
         fY [8] Sd rfl fun hT h=>bQ h.1 (lE hR12 hT (by omega)) rfl,
         oW [(0,72),(4,76),(9,81)] [] Sd rfl fun _ _ _ h _=>II (fst:=[mO]) h.1 (wO (a2 h.2.1 h.2.2.1)) oP (kO x[j]! x[j - 1]! _),
         aP [10] Sd rfl fun h=>eT h.1 rfl,
         aP [11] Sd rfl fun h=>cJ h.1,
         trivial⟩) ?_
        rintro g14 w14 k14 ⟨s84,-⟩ ⟨o0,o1,o2,o3,o8,o9,o10,o11,-⟩
        have s0:=o0.trans s0
        have s1:=o1.trans s1
        have s2:=o2.trans s2
        have s3:=o3.trans s3
        have s8:=o8.trans s8
        have s9:=o9.trans s9
        have s10:=o10.trans s10
        have s11:=o11.trans s11
        have hR12:=hR12.below k14
        have m15:KM (·=b) w w14:=km12.below k14
        refine cd s84 (fun c16=>?_) (fun c16=>?_)
        ·
         refine cI ?_
         repeat (first | refine bN ?_ | refine dC rfl ?_)
         refine dP ?_
         have hDe:x=Sort.shiftDown bK (u - 1) (Sort.swp y u (u - 1)):=by rw [<- hD.2,ZH c16]
         exact ⟨_,rfl,x,s0,s1,s2,s3,s8,s9,s10,hR12,m15,(by first | omega | (simp only [iN];omega)),(by rw [aEc c11n];exact hDe)⟩
        ·
         refine aG ?_
         refine YD (fun _ _=>False) (eE (V:=_::_::_::_::_::_::_::_::_::_::_::_::_::_::_::(fun _ _=>True)::_::(fun _ _=>True)::[]) (M:=fun i=>i=b) (ch:=[15,17]) (L:=[fun W=>Bk b (dE tl x) 112 W,fun W=>Bk b (dE tl (x.setIfInBounds j x[j - 1]!)) 112 W,fun W=>Bk b (dE tl ((x.setIfInBounds j x[j - 1]!).setIfInBounds (j - 1) x[j]!)) 112 W]) rfl ⟨aC,aC,aC,aC,aC,aC,aC,aC,aC,aC,aC,aC,aC,aC,aC,fI,aC,fI,trivial⟩ rfl rfl rfl (by intro P hP a b h k;simp only [aC0,aBy,or_false] at hP;rcases hP with rfl | rfl | rfl <;> exact mQ h k)) [] [0,1,2,3,8,9,10,11] (by kernel_rfl) rfl rfl hR12 (fun _ _ _ h=>h.elim) (fun Sd=>⟨
          bF Sd rfl s0,
          bF Sd rfl s11,
          bF Sd rfl s0,
          bF Sd rfl s11,
          aP [3] Sd rfl fun h=>cS (a:=j) (b:=1) h.1 rfl (by omega),
          bF Sd rfl s0,
          bF Sd rfl s11,
          aP [6] Sd rfl fun h=>cS (a:=j) (b:=1) h.1 rfl (by omega),
          aP [5,7] Sd rfl fun h=>bB underlying67 sizeOf112 h.1 h.2.1 (by omega),
          ol [(8,93)] [] Sd rfl rfl rfl rfl (by rintro g1 w1 hT ⟨h8,-⟩ - hB0;exact dv (bQ h8 (fA hB0 (by omega)) rfl) rfl),
          bF Sd rfl s0,
          bF Sd rfl s11,
          aP [10,11] Sd rfl fun h=>bB underlying67 sizeOf112 h.1 h.2.1 (by omega),
          ol [(12,97)] [] Sd rfl rfl rfl rfl (by rintro g1 w1 hT ⟨h12,-⟩ - hB0;exact dv (bQ h12 (fA hB0 (by omega)) rfl) rfl),
          aP [0,1] Sd rfl fun h=>bB underlying67 sizeOf112 h.1 h.2.1 (by omega),
          oc 0 [(9,94),(14,99)] [] rfl rfl rfl (by rintro g1 w1 hT ⟨h9,h14,-⟩ - hB0;exact jF hB0 h14 h9 (by omega) (fun W hB9 O=>And.intro (aD0 O rfl) (And.intro True.intro hB9))),
          aP [2,4] Sd rfl fun h=>bB underlying67 sizeOf112 h.1 h.2.1 (by omega),
          oc 1 [(13,98),(16,100)] [] rfl rfl rfl (by rintro g1 w1 hT ⟨h13,h16,-⟩ - hB0;exact jF hB0 h16 h13 (by rw [EP];omega) (fun W hB9 O=>And.intro (aD0 O rfl) (And.intro True.intro hB9))),
          trivial⟩) ?_
         rintro g17 w17 k17 - ⟨o0,o1,o2,o3,o8,o9,o10,o11,-⟩ hR17
         have hR17:Bk b (dE tl (Sort.swp x j (j - 1))) 112 w17:=hR17
         have hz17:(Sort.swp x j (j - 1)).size=N:=by rw [iN];omega
         have s0:=o0.trans s0
         have s1:=o1.trans s1
         have s2:=o2.trans s2
         have s3:=o3.trans s3
         have s8:=o8.trans s8
         have s9:=o9.trans s9
         have s10:=o10.trans s10
         have s11:=o11.trans s11
         have m18:=m15.trans k17
         exact pI (eO (bI s11 (sq (cS (a:=j) (b:=1) rfl rfl (by omega)) (aW (zi ((j - 1:Nat):Int)) rfl (nl (fC (by omega) ⟨(j - 1),(Sort.swp x j (j - 1)),rfl,s0,s1,s2,s3,s8,s9,s10,rfl,hR17,m18,(by first | omega | (simp only [iN];omega)),And.intro (by omega) (by rw [<- hD.2];exact (ZF c13n c16).symm)⟩))))))
       ·
        have c13n:=aBe c13
        refine cI ?_
        repeat (first | refine bN ?_ | refine dC rfl ?_)
        refine dP ?_
        have hDe:x=Sort.shiftDown bK (u - 1) (Sort.swp y u (u - 1)):=by rw [<- hD.2,aAm c13n]
        exact ⟨_,rfl,x,s0,s1,s2,s3,s8,s9,s10,hR12,km12,(by first | omega | (simp only [iN];omega)),(by rw [aEc c11n];exact hDe)⟩
      ·
       have c11n:=aBe c11
       exact aG ⟨_,rfl,(Sort.swp y u (u - 1)),s0,s1,s2,s3,s8,s9,s10,hR9,m10,(by first | omega | (simp only [iN];omega)),(by rw [aEd c11n])⟩
     ·
      rintro g19 w19 ⟨z0,s0,s1,s2,s3,s8,s9,s10,hR19,km19,hz19,hz0⟩
      refine rg (bI s2 (bI s9 (sq (cS (a:=hi) (b:=u) rfl rfl (by omega)) (sq (uJ (a:=hi - u) (b:=2) rfl rfl) (nx ?_)))))
      refine Gs (fun g W=>∃ x0:Array aK,g 0=.slice (some ⟨b,0,none⟩) N c/\g 1=zi ((lo:Nat):Int)/\g 2=zi ((hi:Nat):Int)/\g 3=.func (.func 216) ([mO]).toArray ([]).toArray/\g 8=.bool false/\g 9=zi ((u:Nat):Int)/\g 10=zi ((k:Nat):Int)/\Bk b (dE tl x0) 112 W/\KM (·=b) w W/\x0.size=N/\x0=if 2<=hi - u then Sort.shiftUp bK hi (u+1) z0 else z0) ?_ ?_
      ·
       refine cd rfl (fun c20=>?_) (fun c20=>?_)
       ·
        have c20n:=aBp c20
        refine rg (bI s9 (sq (cF (a:=u) (b:=1) rfl rfl (by omega)) (aW (zi ((u+1:Nat):Int)) rfl (nx ?_))))
        refine aO (lp (fun m g W=>∃ j:Nat,∃ x:Array aK,m=hi - j/\g 0=.slice (some ⟨b,0,none⟩) N c/\g 1=zi ((lo:Nat):Int)/\g 2=zi ((hi:Nat):Int)/\g 3=.func (.func 216) ([mO]).toArray ([]).toArray/\g 8=.bool false/\g 9=zi ((u:Nat):Int)/\g 10=zi ((k:Nat):Int)/\g 12=zi ((j:Nat):Int)/\Bk b (dE tl x) 112 W/\KM (·=b) w W/\x.size=N/\(u<j/\Sort.shiftUp bK hi j x=Sort.shiftUp bK hi (u+1) z0)) _ ⟨(u+1),z0,rfl,s0,s1,s2,s3,s8,s9,s10,rfl,hR19,km19,(by first | omega | (simp only [iN];omega)),And.intro (by omega) rfl⟩ ?_)
        rintro m g21 w21 ⟨j,x,hme21,s0,s1,s2,s3,s8,s9,s10,s12,hR21,km21,hz21,hD⟩
        refine aF (rg (bI s12 (bI s2 (sq (AD (a:=j) (b:=hi) rfl rfl) (nx ?_)))))
        refine cd rfl (fun c22=>?_) (fun c22=>?_)
        ·
         have c22n:=aBp c22
         refine aG (aF (aO (aF ?_)))
         refine sD (_::_::_::_::_::_::_::_::_::_::(vE (zi (jN ((x[j]!).at_) ((x[j - 1]!).at_))))::_::_::[]) [(12,124)] [0,1,2,3,8,9,10,12] rfl ⟨aA,aA,aA,aA,aA,aA,aA,aA,aA,aA,aA,aA,aA,trivial⟩ (by kernel_rfl) rfl rfl (fun Sd=>⟨
          bF Sd rfl s3,
          bF Sd rfl s0,
          bF Sd rfl s12,
          aP [1,2] Sd rfl fun h=>bB underlying67 sizeOf112 h.1 h.2.1 (by omega),
          fY [3] Sd rfl fun hT h=>bQ h.1 (lE hR21 hT (by omega)) rfl,
          bF Sd rfl s0,
          bF Sd rfl s12,
          aP [6] Sd rfl fun h=>cS (a:=j) (b:=1) h.1 rfl (by omega),
          aP [5,7] Sd rfl fun h=>bB underlying67 sizeOf112 h.1 h.2.1 (by omega),
          fY [8] Sd rfl fun hT h=>bQ h.1 (lE hR21 hT (by omega)) rfl,
          oW [(0,112),(4,116),(9,121)] [] Sd rfl fun _ _ _ h _=>II (fst:=[mO]) h.1 (wO (a2 h.2.1 h.2.2.1)) oP (kO x[j]! x[j - 1]! _),
          aP [10] Sd rfl fun h=>eT h.1 rfl,
          aP [11] Sd rfl fun h=>cJ h.1,
          trivial⟩) ?_
         rintro g23 w23 k23 ⟨s124,-⟩ ⟨o0,o1,o2,o3,o8,o9,o10,o12,-⟩
         have s0:=o0.trans s0
         have s1:=o1.trans s1
         have s2:=o2.trans s2
         have s3:=o3.trans s3
         have s8:=o8.trans s8
         have s9:=o9.trans s9
         have s10:=o10.trans s10
         have s12:=o12.trans s12
         have hR21:=hR21.below k23
         have m24:KM (·=b) w w23:=km21.below k23
         refine cd s124 (fun c25=>?_) (fun c25=>?_)
         ·
          refine cI ?_
          repeat (first | refine bN ?_ | refine dC rfl ?_)
          refine dP ?_
          have hDe:x=Sort.shiftUp bK hi (u+1) z0:=by rw [<- hD.2,shU_b c22n c25]
          exact ⟨_,rfl,x,s0,s1,s2,s3,s8,s9,s10,hR21,m24,(by first | omega | (simp only [iN];omega)),(by rw [aEc c20n];exact hDe)⟩
         ·
          refine aG ?_
          refine YD (fun _ _=>False) (eE (V:=_::_::_::_::_::_::_::_::_::_::_::_::_::_::_::(fun _ _=>True)::_::(fun _ _=>True)::[]) (M:=fun i=>i=b) (ch:=[15,17]) (L:=[fun W=>Bk b (dE tl x) 112 W,fun W=>Bk b (dE tl (x.setIfInBounds j x[j - 1]!)) 112 W,fun W=>Bk b (dE tl ((x.setIfInBounds j x[j - 1]!).setIfInBounds (j - 1) x[j]!)) 112 W]) rfl ⟨aC,aC,aC,aC,aC,aC,aC,aC,aC,aC,aC,aC,aC,aC,aC,fI,aC,fI,trivial⟩ rfl rfl rfl (by intro P hP a b h k;simp only [aC0,aBy,or_false] at hP;rcases hP with rfl | rfl | rfl <;> exact mQ h k)) [] [0,1,2,3,8,9,10,12] (by kernel_rfl) rfl rfl hR21 (fun _ _ _ h=>h.elim) (fun Sd=>⟨
           bF Sd rfl s0,
           bF Sd rfl s12,
           bF Sd rfl s0,
           bF Sd rfl s12,
           aP [3] Sd rfl fun h=>cS (a:=j) (b:=1) h.1 rfl (by omega),
           bF Sd rfl s0,
           bF Sd rfl s12,
           aP [6] Sd rfl fun h=>cS (a:=j) (b:=1) h.1 rfl (by omega),
           aP [5,7] Sd rfl fun h=>bB underlying67 sizeOf112 h.1 h.2.1 (by omega),
           ol [(8,133)] [] Sd rfl rfl rfl rfl (by rintro g1 w1 hT ⟨h8,-⟩ - hB0;exact dv (bQ h8 (fA hB0 (by omega)) rfl) rfl),
           bF Sd rfl s0,
           bF Sd rfl s12,
           aP [10,11] Sd rfl fun h=>bB underlying67 sizeOf112 h.1 h.2.1 (by omega),
           ol [(12,137)] [] Sd rfl rfl rfl rfl (by rintro g1 w1 hT ⟨h12,-⟩ - hB0;exact dv (bQ h12 (fA hB0 (by omega)) rfl) rfl),
           aP [0,1] Sd rfl fun h=>bB underlying67 sizeOf112 h.1 h.2.1 (by omega),
           oc 0 [(9,134),(14,139)] [] rfl rfl rfl (by rintro g1 w1 hT ⟨h9,h14,-⟩ - hB0;exact jF hB0 h14 h9 (by omega) (fun W hB9 O=>And.intro (aD0 O rfl) (And.intro True.intro hB9))),
           aP [2,4] Sd rfl fun h=>bB underlying67 sizeOf112 h.1 h.2.1 (by omega),
           oc 1 [(13,138),(16,140)] [] rfl rfl rfl (by rintro g1 w1 hT ⟨h13,h16,-⟩ - hB0;exact jF hB0 h16 h13 (by rw [EP];omega) (fun W hB9 O=>And.intro (aD0 O rfl) (And.intro True.intro hB9))),
           trivial⟩) ?_
          rintro g26 w26 k26 - ⟨o0,o1,o2,o3,o8,o9,o10,o12,-⟩ hR26
          have hR26:Bk b (dE tl (Sort.swp x j (j - 1))) 112 w26:=hR26
          have hz26:(Sort.swp x j (j - 1)).size=N:=by rw [iN];omega
          have s0:=o0.trans s0
          have s1:=o1.trans s1
          have s2:=o2.trans s2
          have s3:=o3.trans s3
          have s8:=o8.trans s8
          have s9:=o9.trans s9
          have s10:=o10.trans s10
          have s12:=o12.trans s12
          have m27:=m24.trans k26
          exact pI (eO (bI s12 (sq (cF (a:=j) (b:=1) rfl rfl (by omega)) (aW (zi ((j+1:Nat):Int)) rfl (nl (fC (by omega) ⟨(j+1),(Sort.swp x j (j - 1)),rfl,s0,s1,s2,s3,s8,s9,s10,rfl,hR26,m27,(by first | omega | (simp only [iN];omega)),And.intro (by omega) (by rw [<- hD.2];exact (shU_s c22n c25).symm)⟩))))))
        ·
         have c22n:=aBe c22
         refine cI ?_
         repeat (first | refine bN ?_ | refine dC rfl ?_)
         refine dP ?_
         have hDe:x=Sort.shiftUp bK hi (u+1) z0:=by rw [<- hD.2,aAo c22n]
         exact ⟨_,rfl,x,s0,s1,s2,s3,s8,s9,s10,hR21,km21,(by first | omega | (simp only [iN];omega)),(by rw [aEc c20n];exact hDe)⟩
       ·
        have c20n:=aBe c20
        exact aG ⟨_,rfl,z0,s0,s1,s2,s3,s8,s9,s10,hR19,km19,(by first | omega | (simp only [iN];omega)),(by rw [aEd c20n])⟩
      ·
       rintro g28 w28 ⟨x0,s0,s1,s2,s3,s8,s9,s10,hR28,km28,hz28,hx0⟩
       exact pI (eO (bI s10 (sq (cF (a:=k) (b:=1) rfl rfl (by omega)) (aW (zi ((k+1:Nat):Int)) rfl (nl (fC (by omega) ⟨(k+1),u,x0,rfl,s0,s1,s2,s3,s8,s9,rfl,hR28,km28,(by first | omega | (simp only [iN];omega)),And.intro (by omega) (by rw [<- hP.2];exact (pi_s c2n hUe c7n c8n hz0 hx0).symm)⟩))))))
 ·
  have c2n:=aBe c2
  refine cI ?_
  repeat (first | refine bN ?_ | refine dC rfl ?_)
  exact dP (rg (bU (nx (aE (fO (fn:=Tryz.f256) (R:=fun e W=>∃ v,e=.returned v/\KM (·=b) w W/\v=.bool r.2/\Bk b (dE tl r.1) 112 W/\r.1.size=N) rfl ⟨_,rfl,km1,by rw [<- hr,<- hP.2,pi_0 c2n];exact ⟨rfl,hR1,by simp only;omega⟩⟩)))))
theorem WI (h:Sort.Hint):decide ((pA h:Int)=(1:Int))=decide (h=.increasing):=by cases h <;> rfl
theorem Xm (h:Sort.Hint):decide ((pA h:Int)=(2:Int))=decide (h=.decreasing):=by cases h <;> rfl
section
variable {y z1 z2 z3:Array aK} {p q lim lim1 pv:Nat} {wb wp:Bool} {c:Nat × Sort.Hint} {hn:Sort.Hint} {pi:Array aK × Bool}
theorem Kr (h1:z1=if (!wb)=true then Sort.breakPatterns y p q else y) (hl:lim1=if (!wb)=true then lim - 1 else lim) (hc:Sort.choosePivot bK z1 p q=c) (h2:z2=if c.2=.decreasing then Sort.reverseRange z1 p q else z1) (hpv:pv=if c.2=.decreasing then (q - 1) - (c.1 - p) else c.1) (hhn:hn=if c.2=.decreasing then .increasing else c.2)
  (hpi:(if (wb&&wp&&decide (hn=.increasing))=true then Sort.partialInsertionSort bK z2 p q else (z2,false))=pi):Sort.rd bK y p q lim wb wp=⟨z1,lim1,c,z2,pv,hn,pi⟩:=by
 subst h1 hl hc h2 hpv hhn hpi;rfl
variable {R:Sort.Rd aK} (hR:Sort.rd bK y p q lim wb wp=R) (h:¬ q - p<=12) (h0:¬ lim=0)
include hR h h0
theorem UA (h1:R.pi.2=true):Sort.pdq bK y p q lim wb wp=R.pi.1:=by subst hR;exact Sort.pdq_done h h0 h1
theorem pd_eq (h1:R.pi.2=false) (h2:(decide (0<p)&&!bK R.pi.1[p - 1]! R.pi.1[R.pivot]!)=true) {r:Nat × Array aK} (hr:Sort.partitionEqual bK R.pi.1 p q R.pivot=r) (h3:p<r.1/\r.1<=q):Sort.pdq bK y p q lim wb wp=Sort.pdq bK r.2 r.1 q R.lim wb wp:=by subst hr hR;exact Sort.pdq_eq h h0 h1 h2 h3
theorem Ve (h1:R.pi.2=false) (h2:(decide (0<p)&&!bK R.pi.1[p - 1]! R.pi.1[R.pivot]!)=false) {r:Nat × Bool × Array aK} (hr:Sort.partition bK R.pi.1 p q R.pivot=r) (h3:p<=r.1/\r.1<q) (h4:r.1 - p<q - r.1):Sort.pdq bK y p q lim wb wp=Sort.pdq bK (Sort.pdq bK r.2.2 p r.1 R.lim true true) (r.1+1) q R.lim (decide ((q - p) / 8<=r.1 - p)) r.2.1:=by subst hr hR;exact Sort.pdq_left h h0 h1 h2 h3 h4
theorem OZ (h1:R.pi.2=false) (h2:(decide (0<p)&&!bK R.pi.1[p - 1]! R.pi.1[R.pivot]!)=false) {r:Nat × Bool × Array aK} (hr:Sort.partition bK R.pi.1 p q R.pivot=r) (h3:p<=r.1/\r.1<q) (h4:¬ r.1 - p<q - r.1):Sort.pdq bK y p q lim wb wp=Sort.pdq bK (Sort.pdq bK r.2.2 (r.1+1) q R.lim true true) p r.1 R.lim (decide ((q - p) / 8<=q - r.1)) r.2.1:=by subst hr hR;exact Sort.pdq_right h h0 h1 h2 h3 h4
end
theorem UY (b c N) (hN:N<=1000000):∀ (m lo hi limit:Nat) (d:Array aK) (w:World),hi - lo=m->Bk b (dE tl d) 112 w->d.size=N->lo<=hi->hi<=N->limit<=1000->jP (·=b) 237 [.slice (some ⟨b,0,none⟩) N c,zi (lo:Int),zi (hi:Int),zi (limit:Int),FV] w fun v W=>v=.tuple #[]/\Bk b (dE tl (Sort.pdq bK d lo hi limit true true)) 112 W/\(Sort.pdq bK d lo hi limit true true).size=N:=by
 intro m
 induction m using Nat.strongRecOn with
 | _ m ih=>
 intro lo hi limit d w hm hR hz h1 h2 h3
 refine aJ (n:=148) func237 rfl ntmps237 (aA1 rfl) (rg (bU (nx (rg (bU (nx ?_))))))
 refine aO (lp (fun m g W=>∃ p:Nat,∃ q:Nat,∃ lim:Nat,∃ wb:Bool,∃ wp:Bool,∃ y:Array aK,m=q - p/\g 0=.slice (some ⟨b,0,none⟩) N c/\g 1=zi ((p:Nat):Int)/\g 2=zi ((q:Nat):Int)/\g 3=zi ((lim:Nat):Int)/\g 4=.func (.func 216) ([mO]).toArray ([]).toArray/\g 10=.bool wb/\g 11=.bool wp/\Bk b (dE tl y) 112 W/\KM (·=b) w W/\y.size=N/\((lo<=p/\p<=q/\q<=hi/\lim<=1000)/\Sort.pdq bK y p q lim wb wp=Sort.pdq bK d lo hi limit true true)) _ ⟨lo,hi,limit,true,true,d,rfl,rfl,rfl,rfl,rfl,rfl,rfl,rfl,hR,(aD8 _ _),(by first | omega | (simp only [iN];omega)),And.intro (by omega) rfl⟩ ?_)
 rintro m g1 w1 ⟨p,q,lim,wb,wp,y,hme1,s0,s1,s2,s3,s4,s10,s11,hR1,km1,hz1,hP⟩
 refine aO (rg (bI s2 (bI s1 (sq (cS (a:=q) (b:=p) rfl rfl (by omega)) ?_))))
 obtain ⟨ln,hln⟩:∃ x,x=q - p:=⟨_,rfl⟩
 refine aW (zi ((ln:Nat):Int)) (by rw [hln];exact rfl) (nx (aF (rg (aN (zi ((ln:Nat):Int)) rfl (sq (AI (a:=ln) (b:=12) rfl rfl) (nx ?_))))))
 refine cd rfl (fun c2=>?_) (fun c2=>?_)
 ·
  have c2n:=aBp c2
  refine rg (bI s0 (bI s1 (bI s2 (bI s4 (By (caps:=[]) Wg rfl (ac (a4 rfl rfl rfl rfl)) (SV b c N y p q _ hR1 (by assumption) hN (by omega) (by omega)) ?_)))))
  rintro v3 w3 k3 ⟨rfl,hR3,hz3x⟩
  have hR3:Bk b (dE tl (Sort.insertionSort bK y p q)) 112 w3:=hR3
  have m4:KM (·=b) w w3:=km1.trans k3
  exact nx (aE (uS (fn:=Tryz.f237) (R:=fun e W=>∃ v,e=.returned v/\KM (·=b) w W/\v=.tuple #[]/\Bk b (dE tl (Sort.pdq bK d lo hi limit true true)) 112 W/\(Sort.pdq bK d lo hi limit true true).size=N) rfl ⟨_,rfl,m4,rfl,by rw [<- hP.2,Sort.pdq_small (show q - p<=12 by omega)];exact ⟨hR3,by assumption⟩⟩))
 ·
  have c2n:=aBe c2
  refine aG (aF (rg (bI s3 (sq (AL (a:=lim) (b:=0) rfl rfl) (nx ?_)))))
  refine cd rfl (fun c5=>?_) (fun c5=>?_)
  ·
   have c5n:=aBp c5
   refine rg (bI s0 (bI s1 (bI s2 (bI s4 (By (caps:=[]) ZC rfl (ac (a4 rfl rfl rfl rfl)) (QV b c N y p q _ hR1 (by assumption) hN (by omega) (by omega)) ?_)))))
   rintro v6 w6 k6 ⟨rfl,hR6,hz6x⟩
   have hR6:Bk b (dE tl (Sort.heapSort bK y p q)) 112 w6:=hR6
   have m7:KM (·=b) w w6:=km1.trans k6
   exact nx (aE (uS (fn:=Tryz.f237) (R:=fun e W=>∃ v,e=.returned v/\KM (·=b) w W/\v=.tuple #[]/\Bk b (dE tl (Sort.pdq bK d lo hi limit true true)) 112 W/\(Sort.pdq bK d lo hi limit true true).size=N) rfl ⟨_,rfl,m7,rfl,by rw [<- hP.2,Sort.pdq_heap (show ¬ q - p<=12 by omega) c5n];exact ⟨hR6,by assumption⟩⟩))
  ·
   have c5n:=aBe c5
   refine aG (aF (rg (bI s10 (sq (cJ rfl) (nx ?_)))))
   refine Gs (fun g W=>∃ z1:Array aK,∃ lim1:Nat,g 0=.slice (some ⟨b,0,none⟩) N c/\g 1=zi ((p:Nat):Int)/\g 2=zi ((q:Nat):Int)/\g 3=zi ((lim1:Nat):Int)/\g 4=.func (.func 216) ([mO]).toArray ([]).toArray/\g 10=.bool wb/\g 11=.bool wp/\g 12=zi ((ln:Nat):Int)/\Bk b (dE tl z1) 112 W/\KM (·=b) w W/\z1.size=N/\(z1=if (!wb)=true then Sort.breakPatterns y p q else y)/\(lim1=if (!wb)=true then lim - 1 else lim)) ?_ ?_
   ·
    refine cd rfl (fun c8=>?_) (fun c8=>?_)
    ·
     refine rg (bI s0 (bI s1 (bI s2 (bI s4 (By (caps:=[]) ZM rfl (ac (a4 rfl rfl rfl rfl)) (Yl b c N y p q _ hR1 (by assumption) hN (by omega) (by omega)) ?_)))))
     rintro v9 w9 k9 ⟨rfl,hR9,hz9x⟩
     have hR9:Bk b (dE tl (Sort.breakPatterns y p q)) 112 w9:=hR9
     have m10:KM (·=b) w w9:=km1.trans k9
     exact nx (eO (bI s3 (sq (cS (a:=lim) (b:=1) rfl rfl (by omega)) (aW (zi ((lim - 1:Nat):Int)) rfl (nl ⟨_,rfl,(Sort.breakPatterns y p q),(lim - 1),s0,s1,s2,rfl,s4,s10,s11,rfl,hR9,m10,(by first | omega | (simp only [iN];omega)),And.intro (by rw [aEc c8]) (by rw [aEc c8])⟩)))))
    ·
     exact aG ⟨_,rfl,y,lim,s0,s1,s2,s3,s4,s10,s11,rfl,hR1,km1,(by first | omega | (simp only [iN];omega)),And.intro (by rw [aEd (by rw [c8];exact aBf)]) (by rw [aEd (by rw [c8];exact aBf)])⟩
   ·
    rintro g11 w11 ⟨z1,lim1,s0,s1,s2,s3,s4,s10,s11,s12,hR11,km11,hz11,hz1⟩
    obtain ⟨hz1a,hlim1⟩:=hz1
    have hl1:lim1<=1000:=by rw [hlim1];split <;> omega
    refine rg (bI s0 (bI s1 (bI s2 (bI s4 ?_))))
    obtain ⟨c1,hc1⟩:∃ x,Sort.choosePivot bK z1 p q=x:=⟨_,rfl⟩
    have hcr:p<=c1.1/\c1.1<q:=by rw [<- hc1];exact Sort.choosePivot_holds bK z1 p q (by omega)
    refine cE YV (a4 rfl rfl rfl rfl) (Uh b c N z1 p q _ hR11 (by assumption) hN (by omega) (by omega) c1 hc1) ?_
    rintro _ w12 k12 rfl
    have hR11:=hR11.below k12
    have m13:KM (·=b) w w12:=km11.below k12
    refine aN (.tuple #[zi ((c1.1:Nat):Int),zi (pA c1.2)]) rfl (sq (dT rfl rfl) (sq (dT rfl rfl) (aW (zi ((c1.1:Nat):Int)) rfl (aW (zi (pA c1.2)) rfl (nx (aF (rg (aN (zi (pA c1.2)) rfl (iJ (.bool (decide (c1.2=Sort.Hint.decreasing))) (eZ rfl rfl) (aD7 Value.bool (Xm c1.2)) (nx ?_))))))))))
    refine Gs (fun g W=>∃ z2:Array aK,∃ pv:Nat,∃ hn:Sort.Hint,g 0=.slice (some ⟨b,0,none⟩) N c/\g 1=zi ((p:Nat):Int)/\g 2=zi ((q:Nat):Int)/\g 3=zi ((lim1:Nat):Int)/\g 4=.func (.func 216) ([mO]).toArray ([]).toArray/\g 10=.bool wb/\g 11=.bool wp/\g 12=zi ((ln:Nat):Int)/\g 13=zi ((pv:Nat):Int)/\g 14=zi (pA hn)/\Bk b (dE tl z2) 112 W/\KM (·=b) w W/\z2.size=N/\(z2=if c1.2=.decreasing then Sort.reverseRange z1 p q else z1)/\(pv=if c1.2=.decreasing then q - 1 - (c1.1 - p) else c1.1)/\(hn=if c1.2=.decreasing then Sort.Hint.increasing else c1.2)) ?_ ?_
    ·
     refine cd rfl (fun c14=>?_) (fun c14=>?_)
     ·
      have c14n:=aBp c14
      refine rg (bI s0 (bI s1 (bI s2 (bI s4 (By (caps:=[]) en255 rfl (ac (a4 rfl rfl rfl rfl)) (Uu b c N z1 p q _ hR11 (by assumption) hN (by omega) (by omega)) ?_)))))
      rintro v15 w15 k15 ⟨rfl,hR15,hz15x⟩
      have hR15:Bk b (dE tl (Sort.reverseRange z1 p q)) 112 w15:=hR15
      have m16:=m13.trans k15
      refine nx (rg (bI s2 (sq (cS (a:=q) (b:=1) rfl rfl (by omega)) (aN (zi ((c1.1:Nat):Int)) rfl (bI s1 (sq (cS (a:=c1.1) (b:=p) rfl rfl (by omega)) (sq (cS (a:=q - 1) (b:=c1.1 - p) rfl rfl (by omega)) (aW (zi (((q - 1) - (c1.1 - p):Nat):Int)) rfl (nx (eO (bU (nl ?_))))))))))))
      exact ⟨_,rfl,(Sort.reverseRange z1 p q),(q - 1 - (c1.1 - p)),Sort.Hint.increasing,s0,s1,s2,s3,s4,s10,s11,s12,rfl,rfl,hR15,m16,(by first | omega | (simp only [iN];omega)),And.intro (by rw [aEc c14n]) (And.intro (by rw [aEc c14n]) (by rw [aEc c14n]))⟩
     ·
      have c14n:=aBe c14
      exact aG ⟨_,rfl,z1,c1.1,c1.2,s0,s1,s2,s3,s4,s10,s11,s12,rfl,rfl,hR11,m13,(by first | omega | (simp only [iN];omega)),And.intro (by rw [aEd c14n]) (And.intro (by rw [aEd c14n]) (by rw [aEd c14n]))⟩
    ·
     rintro g17 w17 ⟨z2,pv,hn,s0,s1,s2,s3,s4,s10,s11,s12,s13,s14,hR17,km17,hz17,hz2⟩
     obtain ⟨hz2a,hpva,hhna⟩:=hz2
     have hpvr:p<=pv/\pv<q:=by rw [hpva];split <;> omega
     refine aF ?_
     refine sQ (_::_::_::_::_::_::_::_::[]) [(7,75)] [0,1,2,3,4,10,11,12,13] rfl ⟨aA,aA,aD aA,aA,aA,aD aA,aD aA,aA,trivial⟩ (by kernel_rfl) rfl rfl rfl (fun Sd=>⟨
      bF Sd rfl s10,
      oW [(0,68)] [] Sd rfl fun _ _ _ h _=>dv aT h.1,
      iP Sd rfl s11,
      aP [1,2] Sd rfl fun h=>cG h.1 (fun c=>h.2.1.1 c),
      oW [(3,71)] [] Sd rfl fun _ _ _ h _=>dv aT h.1,
      iP Sd rfl s14,
      oT [(5,73)] [] Sd rfl i2 gU fun e _ _ _ h _=>dG e (dv (eZ (h.1.1 e) rfl) (aD7 Value.bool (WI hn))),
      aP [4,6] Sd rfl fun h=>cG h.1 (fun c=>h.2.1.1 c),
      trivial⟩) ?_
     rintro g18 w18 k18 ⟨s75,-⟩ ⟨o0,o1,o2,o3,o4,o10,o11,o12,o13,-⟩
     have s0:=o0.trans s0
     have s1:=o1.trans s1
     have s2:=o2.trans s2
     have s3:=o3.trans s3
     have s4:=o4.trans s4
     have s10:=o10.trans s10
     have s11:=o11.trans s11
     have s12:=o12.trans s12
     have s13:=o13.trans s13
     have hR17:=hR17.below k18
     have m19:KM (·=b) w w18:=km17.below k18
     refine Gs (fun g W=>∃ z3:Array aK,g 0=.slice (some ⟨b,0,none⟩) N c/\g 1=zi ((p:Nat):Int)/\g 2=zi ((q:Nat):Int)/\g 3=zi ((lim1:Nat):Int)/\g 4=.func (.func 216) ([mO]).toArray ([]).toArray/\g 10=.bool wb/\g 11=.bool wp/\g 12=zi ((ln:Nat):Int)/\g 13=zi ((pv:Nat):Int)/\Bk b (dE tl z3) 112 W/\KM (·=b) w W/\z3.size=N/\(if (wb&&wp&&decide (hn=.increasing))=true then Sort.partialInsertionSort bK z2 p q else (z2,false))=(z3,false)) ?_ ?_
     ·
      refine cd s75 (fun c20=>?_) (fun c20=>?_)
      ·
       refine rg (bI s0 (bI s1 (bI s2 (bI s4 ?_))))
       obtain ⟨pr,hpr⟩:∃ x,Sort.partialInsertionSort bK z2 p q=x:=⟨_,rfl⟩
       refine By (caps:=[]) en256 rfl (ac (a4 rfl rfl rfl rfl)) (Xn b c N z2 p q _ hR17 (by assumption) hN (by omega) (by omega) pr hpr) ?_
       rintro v21 w21 k21 ⟨rfl,hR21,hz21x⟩
       have hR21:Bk b (dE tl pr.1) 112 w21:=hR21
       have m22:=m19.trans k21
       refine nx ?_
       refine cd rfl (fun c23=>?_) (fun c23=>?_)
       ·
        exact aE (uS (fn:=Tryz.f237) (R:=fun e W=>∃ v,e=.returned v/\KM (·=b) w W/\v=.tuple #[]/\Bk b (dE tl (Sort.pdq bK d lo hi limit true true)) 112 W/\(Sort.pdq bK d lo hi limit true true).size=N) rfl ⟨_,rfl,m22,rfl,by rw [<- hP.2,UA (Kr hz1a hlim1 hc1 hz2a hpva hhna (by rw [aEc c20];exact hpr)) (by omega) c5n c23];exact ⟨hR21,by assumption⟩⟩)
       ·
        exact aG ⟨_,rfl,pr.1,s0,s1,s2,s3,s4,s10,s11,s12,s13,hR21,m22,(by first | omega | (simp only [iN];omega)),(by rw [aEc c20,hpr];exact Prod.ext rfl c23)⟩
      ·
       exact aG ⟨_,rfl,z2,s0,s1,s2,s3,s4,s10,s11,s12,s13,hR17,m19,(by first | omega | (simp only [iN];omega)),(aEd (by rw [c20];exact aBf))⟩
     ·
      rintro g24 w24 ⟨z3,s0,s1,s2,s3,s4,s10,s11,s12,s13,hR24,km24,hz24,hz3⟩
      have hz3a:=hz3
      refine aF ?_
      refine sD (_::_::_::_::_::_::_::_::_::_::_::_::_::(GV (decide (0<p)) (vE (zi (jN ((z3[p - 1]!).at_) ((z3[pv]!).at_)))))::_::_::_::[]) [(16,97)] [0,1,2,3,4,10,11,12,13] rfl ⟨aA,aA,aA,aD aA,aD aA,aD aA,aD aA,aD aA,aD aA,aD aA,aD aA,aD aA,aD aA,aD aA,aD aA,aD aA,aA,trivial⟩ (by kernel_rfl) rfl rfl (fun Sd=>⟨
       bF Sd rfl s1,
       aP [0] Sd rfl fun h=>GS (a:=p) (b:=0) h.1 rfl,
       oW [(1,82)] [] Sd rfl fun _ _ _ h _=>dv aT h.1,
       iP Sd rfl s4,
       iP Sd rfl s0,
       iP Sd rfl s1,
       dM [5] Sd rfl fun e _ h=>cS (a:=p) (b:=1) (h.1.1 e) rfl (by have he:=aBp e;omega),
       dM [4,6] Sd rfl fun e _ h=>bB underlying67 sizeOf112 (h.1.1 e) (h.2.1.1 e) (by have he:=aBp e;omega),
       dM [7] Sd rfl fun e hT h=>bQ (h.1.1 e) (lE hR24 hT (by have he:=aBp e;omega)) rfl,
       iP Sd rfl s0,
       iP Sd rfl s13,
       dM [9,10] Sd rfl fun e _ h=>bB underlying67 sizeOf112 (h.1.1 e) (h.2.1.1 e) (by have he:=aBp e;omega),
       dM [11] Sd rfl fun e hT h=>bQ (h.1.1 e) (lE hR24 hT (by have he:=aBp e;omega)) rfl,
       oT [(3,84),(8,89),(12,93)] [] Sd rfl i2 gU fun e _ _ _ h _=>dG e (II (fst:=[mO]) (h.1.1 e) (wO (a2 (h.2.1.1 e) (h.2.2.1.1 e))) oP (kO z3[p - 1]! z3[pv]! _)),
       dM [13] Sd rfl fun e _ h=>eT (h.1.1 e) rfl,
       dM [14] Sd rfl fun e _ h=>cJ (h.1.1 e),
       aP [2,15] Sd rfl fun h=>cG h.1 (fun c=>h.2.1.1 c),
       trivial⟩) ?_
      rintro g25 w25 k25 ⟨s97,-⟩ ⟨o0,o1,o2,o3,o4,o10,o11,o12,o13,-⟩
      have s0:=o0.trans s0
      have s1:=o1.trans s1
      have s2:=o2.trans s2
      have s3:=o3.trans s3
      have s4:=o4.trans s4
      have s10:=o10.trans s10
      have s11:=o11.trans s11
      have s12:=o12.trans s12
      have s13:=o13.trans s13
      have hR24:=hR24.below k25
      have m26:KM (·=b) w w25:=km24.below k25
      refine cd s97 (fun c27=>?_) (fun c27=>?_)
      ·
       have c27n:=aBp (Np c27)
       refine rg (bI s0 (bI s1 (bI s2 (bI s13 (bI s4 ?_)))))
       obtain ⟨r1,hr1⟩:∃ x,Sort.partitionEqual bK z3 p q pv=x:=⟨_,rfl⟩
       refine By (caps:=[]) en257 rfl (ac (a5 rfl rfl rfl rfl rfl)) (WG b c N z3 p q pv _ hR24 (by assumption) hN (by omega) (by omega) (by omega) r1 hr1) ?_
       rintro v28 w28 k28 ⟨rfl,hR28,hz28x,hr1a,hr1b⟩
       have hR28:Bk b (dE tl r1.2) 112 w28:=hR28
       have m29:=m26.trans k28
       refine aW (zi ((r1.1:Nat):Int)) rfl (nx (rg (aN (zi ((r1.1:Nat):Int)) rfl (aW (zi ((r1.1:Nat):Int)) rfl (nx (cI ?_))))))
       repeat (first | refine bN ?_ | refine dC rfl ?_)
       exact dP (fC (by omega) ⟨r1.1,q,lim1,wb,wp,r1.2,rfl,s0,rfl,s2,s3,s4,s10,s11,hR28,m29,(by first | omega | (simp only [iN];omega)),And.intro (by omega) (by rw [<- hP.2];exact (pd_eq (Kr hz1a hlim1 hc1 hz2a hpva hhna hz3a) (by omega) c5n rfl c27 hr1 ⟨hr1a,hr1b⟩).symm)⟩)
      ·
       refine aG (rg (bI s0 (bI s1 (bI s2 (bI s13 (bI s4 ?_))))))
       obtain ⟨r1,hr1⟩:∃ x,Sort.partition bK z3 p q pv=x:=⟨_,rfl⟩
       refine By (caps:=[]) en258 rfl (ac (a5 rfl rfl rfl rfl rfl)) (Yu b c N z3 p q pv _ hR24 (by assumption) hN (by omega) (by omega) (by omega) r1 hr1) ?_
       rintro v30 w30 k30 ⟨rfl,hR30,hz30x,hr1a,hr1b⟩
       have hR30:Bk b (dE tl r1.2.2) 112 w30:=hR30
       have m31:=m26.trans k30
       refine aN (.tuple #[zi ((r1.1:Nat):Int),.bool r1.2.1]) rfl (sq (dT rfl rfl) (sq (dT rfl rfl) (aW (zi ((r1.1:Nat):Int)) rfl (aW (.bool r1.2.1) rfl (nx (rg (aN (.bool r1.2.1) rfl (aW (.bool r1.2.1) rfl (nx (rg (aN (zi ((r1.1:Nat):Int)) rfl (bI s1 ?_))))))))))))
       refine sq (cS (a:=r1.1) (b:=p) rfl rfl (by omega)) (bI s2 (aN (zi ((r1.1:Nat):Int)) rfl (sq (cS (a:=q) (b:=r1.1) rfl rfl (by omega)) (aW (zi ((r1.1 - p:Nat):Int)) rfl (aW (zi ((q - r1.1:Nat):Int)) rfl (nx (rg (bI s12 (sq (vW (a:=ln) (b:=8) rfl rfl (by omega)) (aW (zi ((ln / 8:Nat):Int)) rfl (nx (rg ?_))))))))))))
       refine aN (zi ((r1.1 - p:Nat):Int)) rfl (aN (zi ((q - r1.1:Nat):Int)) rfl (sq (AD (a:=r1.1 - p) (b:=q - r1.1) rfl rfl) (nx ?_)))
       refine cd rfl (fun c32=>?_) (fun c32=>?_)
       ·
        have c32n:=aBp c32
        refine rg (aN (zi ((r1.1 - p:Nat):Int)) rfl (aN (zi ((ln / 8:Nat):Int)) rfl (sq (uJ (a:=r1.1 - p) (b:=ln / 8) rfl rfl) (aW (.bool (decide ((ln / 8)<=(r1.1 - p)))) rfl (nx (rg (bI s0 (bI s1 (aN (zi ((r1.1:Nat):Int)) rfl (bI s3 (bI s4 (By (caps:=[]) KB rfl (ac (a5 rfl rfl rfl rfl rfl)) (ih (r1.1 - p) (by omega) p r1.1 lim1 r1.2.2 _ rfl hR30 (by assumption) (by omega) (by omega) (by omega)) ?_))))))))))))
        rintro v33 w33 k33 ⟨rfl,hR33,hz33x⟩
        have hR33:Bk b (dE tl (Sort.pdq bK r1.2.2 p r1.1 lim1 true true)) 112 w33:=hR33
        have m34:=m31.trans k33
        exact nx (eO (aN (zi ((r1.1:Nat):Int)) rfl (sq (cF (a:=r1.1) (b:=1) rfl rfl (by omega)) (aW (zi ((r1.1+1:Nat):Int)) rfl (nl (pI (fC (by omega) ⟨(r1.1+1),q,lim1,(decide (ln / 8<=(r1.1 - p))),r1.2.1,(Sort.pdq bK r1.2.2 p r1.1 lim1 true true),rfl,s0,rfl,s2,s3,s4,rfl,rfl,hR33,m34,(by first | omega | (simp only [iN];omega)),And.intro (by omega) (by rw [<- hP.2];subst hln;exact (Ve (Kr hz1a hlim1 hc1 hz2a hpva hhna hz3a) (by omega) c5n rfl c27 hr1 ⟨hr1a,hr1b⟩ c32n).symm)⟩)))))))
       ·
        have c32n:=aBe c32
        refine rg (aN (zi ((q - r1.1:Nat):Int)) rfl (aN (zi ((ln / 8:Nat):Int)) rfl (sq (uJ (a:=q - r1.1) (b:=ln / 8) rfl rfl) (aW (.bool (decide ((ln / 8)<=(q - r1.1)))) rfl (nx (rg (bI s0 (aN (zi ((r1.1:Nat):Int)) rfl (sq (cF (a:=r1.1) (b:=1) rfl rfl (by omega)) (bI s2 (bI s3 (bI s4 ?_))))))))))))
        refine By (caps:=[]) KB rfl (ac (a5 rfl rfl rfl rfl rfl)) (ih (q - (r1.1+1)) (by omega) (r1.1+1) q lim1 r1.2.2 _ rfl hR30 (by assumption) (by omega) (by omega) (by omega)) ?_
        rintro v35 w35 k35 ⟨rfl,hR35,hz35x⟩
        have hR35:Bk b (dE tl (Sort.pdq bK r1.2.2 (r1.1+1) q lim1 true true)) 112 w35:=hR35
        have m36:=m31.trans k35
        exact nx (eO (aN (zi ((r1.1:Nat):Int)) rfl (aW (zi ((r1.1:Nat):Int)) rfl (nl (pI (fC (by omega) ⟨p,r1.1,lim1,(decide (ln / 8<=(q - r1.1))),r1.2.1,(Sort.pdq bK r1.2.2 (r1.1+1) q lim1 true true),rfl,s0,s1,rfl,s3,s4,rfl,rfl,hR35,m36,(by first | omega | (simp only [iN];omega)),And.intro (by omega) (by rw [<- hP.2];subst hln;exact (OZ (Kr hz1a hlim1 hc1 hz2a hpva hhna hz3a) (by omega) c5n rfl c27 hr1 ⟨hr1a,hr1b⟩ c32n).symm)⟩))))))
def Fp:Go.Shelf.Ren:=⟨fun | 41=>214 | n=>n,fun | 22=>67 | 23=>112 | 4=>4 | n=>n,fun | n=>n⟩
theorem Gl: Go.Proofs.SlLaysE0.n41 prog Fp:={
 mixed:=by kernel_rfl
 f41:=⟨Tryz.f214.name,by decide,func214.trans (aD7 some (by kernel_rfl))⟩
 t4:=underlying4
 a4:=isAgg4
 z4:=sizeOf4
 v4:=zeroValue4
 t22:=underlying67
 a22:=isAgg67
 z22:=sizeOf67
 v22:=zeroValue67 }
theorem Nj (b) (c) (l:List aK) (w) (hN:l.length<=1000000) (hv:Rd 2 w (.slice b l.length c) l.length c (l.flatMap aK.cells)):
  cT 214 [.slice b l.length c] w fun v W=>(v=cP/\l=[])\/∃ g cap tl,v=.slice (some ⟨g,0,none⟩) l.length cap/\w.heap.size<=g/\Bk g (dE tl l.toArray) 112 W/\l.length<=cap/\cap<=maxLen:=by
 obtain ⟨h1,h2,h3,⟨e,e1,e2⟩ | ⟨g,o,e,hg,hr⟩⟩:=hv
 ·have e3:b=none:=by injection e
  subst e3
  refine (AnyE.slices_Clone_nil Gl _ _ w).mono ?_
  rintro e w' ⟨rfl,rfl⟩
  exact ⟨_,rfl,aDt _ _,.inl ⟨rfl,aAt e1⟩⟩
 ·cases e
  obtain ⟨i0,hi0,hz0,hz1,hz2⟩:=info_parts sT
  refine (AnyE.slices_Clone Gl i0 _ 2 16 hi0 hz0 hz1 hz2 rfl (by decide) sizeOf112 g o l.length c (l.flatMap aK.cells) w h1 (by simp only [maxLen];omega) (by omega) (fun j u hu=>hr j u hu) ?_).mono ?_
  ·intro u hu
   obtain ⟨x,_,hx⟩:=List.mem_flatMap.1 hu
   simp only [aK.cells,aC0,aBy,or_false] at hx
   rcases hx with rfl | rfl <;> rfl
  ·rintro e w' ⟨v,rfl,⟨_,⟨hn,hl⟩ | ⟨g2,cap,cur,e2,hb,hh,hc1,hc2,hc3,htk⟩⟩,hne,hB⟩
   ·exact absurd hn hne
   ·refine ⟨_,rfl,hB,.inr ⟨g2,cap,cur.toList.drop (l.length*2),e2,hb,?_,hc1,hc2⟩⟩
    unfold Bk dE
    rw [hh,<- htk]
    simp
    rfl
theorem IZ (x y):bK x y=decide (x.at_<y.at_):=by
 unfold bK jN
 by_cases h:x.at_<y.at_
 ·simp [h]
 ·rw [aEd h];split <;> simp [h]
theorem TD: Sort.SWO bK where
 irrefl x:=by simp [IZ]
 trans x y z h1 h2:=by simp only [IZ,aBq] at *;omega
 ntrans x y z h1 h2:=by simp only [IZ,decide_eq_false_iff_not] at *;omega
def bO (l:List aK):List aK:=(Sort.pdq bK l.toArray 0 l.length (Sort.bitsLen l.length) true true).toList
theorem mD (l:List aK):(bO l).Perm l:=by
 have h:=(Sort.pdq_sorts bK TD l.toArray 0 l.length (Sort.bitsLen l.length) true true (aDm _) (by simp) (.inl rfl)).1
 have hs:(Sort.pdq bK l.toArray 0 l.length (Sort.bitsLen l.length) true true).size=l.length:=by rw [h.1];simp
 have h3:=h.2.2
 unfold bO
 generalize Sort.pdq bK l.toArray 0 l.length (Sort.bitsLen l.length) true true=D at hs h3
 rw [show Array.extract D 0 l.length=D by rw [<- hs];simp,show l.toArray.extract 0 l.length=l.toArray by simp] at h3
 simpa using h3
theorem DU: bO []=[]:=(mD []).eq_nil
theorem Xb (hB:Bk bk (dE tl d) 112 w) (hn:d.size=n) (h1:n<=c) (h2:c<=maxLen):Rd 2 w (.slice (some ⟨bk,0,none⟩) n c) n c (d.toList.flatMap aK.cells):=
 ⟨by rw [Ds];simp [hn],h1,h2,.inr ⟨bk,0,rfl,hB.lt,fun j u hu=>hB.range j u (by unfold dE;rw [List.getElem?_append_left (List.getElem?_eq_some_iff.1 hu).1];exact hu)⟩⟩
theorem SD (w):cT 251 [cP,zi 0,zi 0,FV] w fun v _=>v=.tuple #[]:=by
 refine aJ (n:=53) func251 rfl ntmps251 (aA1 rfl) (rg (aN aV rfl (iJ (zi (1)) (iK rfl rfl (by decide)) (by first | rfl | decide | simp) (aW (zi (1)) rfl (nx (aO (Al (aF (rg (aN (zi (1)) rfl (aN aV rfl (iJ (.bool false) (eT rfl rfl) (by first | rfl | decide | simp) ?_))))))))))))
 refine nx (rM rfl (cI ?_))
 repeat (first | refine bN ?_ | refine dC rfl ?_)
 exact dP (fV rfl ⟨_,rfl,(aDt _ _),rfl⟩)
theorem SG (w):cT 237 [cP,zi 0,zi 0,zi 0,FV] w fun v _=>v=.tuple #[]:=by
 refine aJ (n:=148) func237 rfl ntmps237 (aA1 rfl) (rg (aW (.bool true) rfl (nx (rg (aW (.bool true) rfl ?_)))))
 refine nx (aO (Al (aO (rg (aN aV rfl ?_)))))
 refine aN aV rfl (iJ aV (tB rfl rfl (by decide)) (by first | rfl | decide | simp) (aW aV rfl (nx (aF (rg ?_)))))
 refine aN aV rfl (iJ (.bool true) (xV rfl rfl) (by first | rfl | decide | simp) (nx (Ns rfl (rg (aN (cP) rfl ?_)))))
 refine aN aV rfl (aN aV rfl (aN (.func (.func 216) ([mO]).toArray ([]).toArray) rfl (cE Wg (a4 rfl rfl rfl rfl) (SD _) ?_)))
 rintro _ w1 k1 rfl
 refine nx (aE ?_)
 exact uS (fn:=Tryz.f237) (R:=fun e W=>∃ v,e=.returned v/\Below w.heap.size w W/\v=.tuple #[]) rfl ⟨_,rfl,k1,rfl⟩
theorem Mu (w):cT 215 [cP,FV] w fun v _=>v=.tuple #[]:=by
 refine aJ (n:=14) func215 rfl ntmps215 (aA1 rfl) (rg (aN (cP) rfl (sq (aY underlying67 rfl) (aW aV rfl (nx (eO (aN (cP) rfl (aN aV rfl (aN aV rfl (iJ (.int .u64 (0)) (pO underlying3 underlying208 rfl) (aD7 (Value.int .u64) (oZ (a:=0) (by omega))) (cE OO (a1 rfl) (Fd 0 _ (by omega)) ?_)))))))))))
 rintro _ w1 k1 rfl
 refine aN (.func (.func 216) ([mO]).toArray ([]).toArray) rfl (cE KB (a5 rfl rfl rfl rfl rfl) (SG _) ?_)
 rintro _ w2 k2 rfl
 have b3:=aDu k1 k2
 exact nl (fV rfl ⟨_,rfl,b3,rfl⟩)
theorem LY (b c N) (d) (w) (hR:Bk b (dE tl d) 112 w) (hz:d.size=N) (hN:N<=1000000):jP (·=b) 215 [.slice (some ⟨b,0,none⟩) N c,FV] w fun v W=>v=.tuple #[]/\Bk b (dE tl (Sort.pdq bK d 0 N (Sort.bitsLen N) true true)) 112 W/\(Sort.pdq bK d 0 N (Sort.bitsLen N) true true).size=N:=by
 refine aJ (n:=14) func215 rfl ntmps215 (aA1 rfl) (rg (aN (.slice (some ⟨b,0,none⟩) N c) rfl (sq (aY underlying67 rfl) (aW (zi ((N:Nat):Int)) rfl (nx (eO (aN (.slice (some ⟨b,0,none⟩) N c) rfl (aN (zi ((N:Nat):Int)) rfl (aN (zi ((N:Nat):Int)) rfl (iJ (.int .u64 ((N:Nat):Int)) (pO underlying3 underlying208 rfl) (aD7 (Value.int .u64) (oZ (by omega))) (cE OO (a1 rfl) (Fd N _ (by omega)) ?_)))))))))))
 rintro _ w1 k1 rfl
 have hR:=hR.below k1
 have m2:KM (·=b) w w1:=aDr k1
 refine aN (.func (.func 216) ([mO]).toArray ([]).toArray) rfl (By (caps:=[]) KB rfl (ac (a5 rfl rfl rfl rfl rfl)) (UY b c N hN _ 0 N (Sort.bitsLen N) d _ rfl hR hz (by omega) (by omega) (by have:=Yd hN;omega)) ?_)
 rintro v3 w3 k3 ⟨rfl,hR3,hz3x⟩
 have hR3:Bk b (dE tl (Sort.pdq bK d 0 N (Sort.bitsLen N) true true)) 112 w3:=hR3
 have m4:=m2.trans k3
 exact nl (fV rfl ⟨_,rfl,m4,rfl,by exact ⟨hR3,by omega⟩⟩)
theorem Cb (b) (c) (l:List aK) (w) (hN:l.length<=1000000) (hv:Rd 2 w (.slice b l.length c) l.length c (l.flatMap aK.cells)):
  cT 169 [.slice b l.length c] w fun v W=>∃ b' c',v=.slice b' (bO l).length c'/\Rd 2 W (.slice b' (bO l).length c') (bO l).length c' ((bO l).flatMap aK.cells)/\∀ k,(Value.slice b' (bO l).length c').ownBlock=some k->w.heap.size<=k:=by
 refine aJ (n:=12) func169 rfl ntmps169 (aA1 rfl) (rg (bU (nx (rg (aW (.func (.func 213) #[] #[]) rfl (nx (rg (aN (.slice b l.length c) rfl (cE en214 (a1 rfl) (Nj b c l _ hN hv) ?_)))))))))
 rintro v1 w1 k1 (hsp1 | hsp1)
 ·
  obtain ⟨rfl,hl⟩:=hsp1
  refine aW (cP) rfl (nx (rg (aN (cP) rfl (aN (.func (.func 213) #[] #[]) rfl (sq (tX rfl) (cE VR (a2 rfl rfl) (Mu _) ?_))))))
  rintro _ w2 k2 rfl
  have b3:=aDu k1 k2
  exact nx (rg (aN (cP) rfl (aW (cP) rfl (nx (aE (fO rfl ⟨_,rfl,b3,none,0,by subst hl;rw [DU];exact rfl,by subst hl;rw [DU];exact aEe _ _,fun k hk=>(by cases hk)⟩))))))
 ·
  obtain ⟨g1,cap,tl,rfl,hg,hB,hc1,hc2⟩:=hsp1
  refine aW (.slice (some ⟨g1,0,none⟩) l.length cap) rfl (nx (rg (aN (.slice (some ⟨g1,0,none⟩) l.length cap) rfl (aN (.func (.func 213) #[] #[]) rfl (sq (tX rfl) (By (caps:=[]) VR rfl (ac (a2 rfl rfl)) (LY g1 cap l.length l.toArray _ (hB.below (aDt _ _)) (by simp) hN) ?_))))))
  rintro v4 w4 k4 ⟨rfl,hR4,hz4⟩
  have b4:=aDs k4 k1 k1.size (fun i hi=>by have:i=g1:=hi;omega)
  refine nx (rg (aN (.slice (some ⟨g1,0,none⟩) l.length cap) rfl (aW (.slice (some ⟨g1,0,none⟩) l.length cap) rfl (nx (aE ?_)))))
  have hls:(bO l).length=l.length:=(mD l).length_eq
  exact fO rfl ⟨_,rfl,b4,some ⟨g1,0,none⟩,cap,by rw [hls];exact rfl,by rw [hls];exact Xb hR4 hz4 hc1 hc2,fun k hk=>by cases hk;exact hg⟩
def xJ (p s:dQ) (k:Nat):Bool:=(((!(dK (s.user).data.toList))||(decide ((s.use:Int)<(1:Int))))||(!([s.use].all bC)))||((decide ((0:Int)<((k:Nat):Int)))&&(geS p.user s.user))
def fR (l:List dQ):Bool:=(List.range l.length).all (fun k=>!xJ (l[k - 1]!) (l[k]!) k)&&decide (l.length<=100)
theorem Gg (b) (c) (l:List dQ) (w) (hN:l.length<=1000000) (hv:Rd 2 w (.slice b l.length c) l.length c (l.flatMap dQ.cells)) (hf:∀ x∈l,x.Fit):cT 33 [.slice b l.length c] w fun v _=>v=zi (cA 240 (fR l)):=by
 refine aJ (args:=[.slice b l.length c]) func33 rfl ntmps33 (aA1 rfl) (rg (bU (nx (aF (rg (aN (.slice b l.length c) rfl (sq (aY underlying37 rfl) (rU (nx ?_)))))))))
 refine bD (fun k g W=>g 7=zi ((k:Nat):Int)/\g 6=zi (((l.length:Nat)):Int)/\g 0=.slice b l.length c/\g 2=zi (0)/\g 5=.slice b l.length c/\Below w.heap.size w W/\((List.range k).all (fun k=>!xJ (l[k - 1]!) (l[k]!) k)=true)) l.length (by omega) (fun _ _ _ h=>⟨h.1,h.2.1⟩) ⟨rfl,rfl,rfl,rfl,rfl,aDt _ _,rfl⟩ rfl rfl (fun _ _ _ _ h=>h) ?_ ?_
 ·
  rintro k g1 w1 hk ⟨s7,s6,s0,s2,s5,b1,hP⟩
  obtain ⟨g,o,rfl,hg,hr⟩:=aD5 hv (aBg (aDm _) hk)
  refine rg (bI s7 (sq (bB underlying37 sizeOf132 s5 s7 hk) (sq (VD rfl (cQ dQ.cells 2 dQ.len hr hg b1 hk) rfl) (eA (cs:=[.string (⟨#[]⟩),aV]) zeroValue132 rfl fun w2 B2 k2 z2 =>?_))))
  have leB2:=b1.size
  have b3:=aDu b1 k2
  refine aW (zi (k:Nat)) rfl (KO (vs:=dQ.cells l[k]) B2 sizeOf132 rfl rfl rfl rfl fun w4 B2n O4 z4 =>?_)
  replace B2:=B2n
  have b5:=aS.toBelow O4 b3 b3.size leB2
  refine nx ?_
  refine sD (_::_::(vE (.bool (dK (l[k].user).data.toList)))::_::_::_::_::_::_::_::_::_::(GV (!((!(dK (l[k].user).data.toList))||(decide ((l[k].use:Int)<(1:Int))))) (fun v w=>Rd 1 w v 1 1 [zi (l[k].use)]))::(GV (!((!(dK (l[k].user).data.toList))||(decide ((l[k].use:Int)<(1:Int))))) (vE (.bool ([l[k].use].all bC))))::_::_::_::_::_::_::_::_::_::_::_::_::_::_::_::_::_::[]) [(30,42)] [0,2,5,6,7] rfl ⟨aA,aA,aA,aA,aA,aD aA,aD aA,aD aA,aA,aA,aD aA,aD aA,aD zT,aD aA,aD aA,aA,aA,aD aA,aD aA,aD aA,aD aA,aD aA,aD aA,aD aA,aD aA,aD aA,aD aA,aD aA,aD aA,aD aA,aA,trivial⟩ (by kernel_rfl) rfl rfl (fun S=>⟨
   jA 4 S rfl fun q=>Bj q,
   fY [0] S rfl fun hT h=>nY h.1 ((B2.below hT).cell 0 rfl),
   oW [(1,13)] [] S rfl fun _ _ _ h _=>gV (a1 h.1) Jq (oM (lO (l[k].user) _ (aC7 (hf _ (aBz hk)).user (by decide)))),
   aP [2] S rfl fun h=>cJ h.1,
   oW [(3,15)] [] S rfl fun _ _ _ h _=>dv aT h.1,
   fW 4 S rfl fun e q=>EB q,
   cK [5] S rfl fun e hT h=>cZ (h.1.1 e) ((B2.below hT).cell 1 rfl),
   cK [6] S rfl fun e _ h=>eT (h.1.1 e) rfl,
   aP [4,7] S rfl fun h=>dA h.1 (fun c=>h.2.1.1 (tn c)),
   oW [(8,20)] [] S rfl fun _ _ _ h _=>dv aT h.1,
   fW 4 S rfl fun e q=>EB q,
   cK [10] S rfl fun e hT h=>cZ (h.1.1 e) ((B2.below hT).cell 1 rfl),
   og (kd:=21) (!((!(dK (l[k].user).data.toList))||(decide ((l[k].use:Int)<(1:Int))))) [(11,23)] [] S rfl rfl rfl rfl (fun _ _ h=>YC h) (fun _ e=>Wz e) (by rintro e g1 w1 hT ⟨h11,-⟩ -;exact dG e (yI (h11.1 e))),
   oF [(12,24)] [] S rfl i2 gU fun e _ _ _ h _=>dG e (gV (a1 rfl) aAa (Is (l:=[l[k].use]) (h.1.1 e) (by simp) (m1 ((hf _ (aBz hk)).use)))),
   cK [13] S rfl fun e _ h=>cJ (h.1.1 e),
   aP [9,14] S rfl fun h=>dA h.1 (fun c=>h.2.1.1 (tn c)),
   oW [(15,27)] [] S rfl fun _ _ _ h _=>dv aT h.1,
   tW S rfl rfl,
   cK [17] S rfl fun e _ h=>gH (h.1.1 e) rfl,
   oF [(18,30)] [] S rfl i2 gU fun e _ _ _ h _=>dv aT (mY e (h.1.1 e)),
   AZ [] [0] S rfl i2 gU fun e _ _ _ _ q=>dv aT (mY e (q.1.trans s0)),
   AZ [] [3] S rfl i2 gU fun e _ _ _ _ q=>dv aT (mY e q.1),
   rX [21] S rfl fun e _ h=>Gz (h.1.1 e) rfl (by have:=aBp (ar e);omega),
   rX [20,22] S rfl fun e _ h=>bB underlying37 sizeOf132 (h.1.1 e) (h.2.1.1 e) (aBg (aDv _ _) hk),
   rX [23] S rfl fun e _ h=>Bj (h.1.1 e),
   rX [24] S rfl fun e hT h=>nY (h.1.1 e) (cQ dQ.cells 2 dQ.len hr hg (aDu b5 hT) (aBg (aDv _ _) hk) 0 _ rfl),
   AZ [] [4] S rfl i2 gU fun e _ _ _ _ q=>dv (Bj q.1) (mY e rfl),
   rX [26] S rfl fun e hT h=>nY (h.1.1 e) ((B2.below hT).cell 0 rfl),
   rX [25,27] S rfl fun e _ h=>Zq (h.1.1 e) (h.2.1.1 e),
   cK [19,28] S rfl fun e _ h=>cG (h.1.1 e) (fun c=>h.2.1.1 (aa e c)),
   aP [16,29] S rfl fun h=>dA h.1 (fun c=>h.2.1.1 (tn c)),
   trivial⟩) ?_
  rintro g6 w6 k6 ⟨s42,-⟩ ⟨o0,o2,o5,o6,o7,-⟩
  have s0:=o0.trans s0
  have s2:=o2.trans s2
  have s5:=o5.trans s5
  have s6:=o6.trans s6
  have s7:=o7.trans s7
  have b7:=aDu b5 k6
  refine cd s42 (fun c8=>?_) (fun c8=>?_)
  ·
   refine rg (bU (nx (aE ?_)))
   exact bT (R:=fun v _=>v=zi (cA 240 (fR l))) rfl b7 (aD6 (b:=(zi (240):Value)) rfl (aD7 (Value.int .i64) (oH (n:=240) (b:=fR l) (Bd (bad:=xJ ) hk c8)).symm))
  ·
   exact aG (dO ⟨⟨rfl,s6,s0,s2,s5,b7,Ej (bad:=xJ ) hk hP c8⟩,s7⟩)
 ·
  rintro g9 w9 ⟨s7,s6,s0,s2,s5,b9,hP⟩
  refine aF (rg (bI s0 (sq (aY underlying37 rfl) (sq (gH rfl rfl) (nx ?_)))))
  refine cd rfl (fun c10=>?_) (fun c10=>?_)
  ·
   refine rg (bU (nx (aE ?_)))
   exact bT (R:=fun v _=>v=zi (cA 240 (fR l))) rfl b9 (aD6 (b:=(zi (240):Value)) rfl (aD7 (Value.int .i64) (oH (n:=240) (b:=fR l) (Fq c10)).symm))
  ·
   refine aG (rg (bU (nx (aE ?_))))
   exact bT (R:=fun v _=>v=zi (cA 240 (fR l))) rfl b9 (aD6 (b:=(zi (0):Value)) rfl (aD7 (Value.int .i64) (uH (n:=240) (b:=fR l) (Eg hP c10)).symm))
def EM (x:eL):Bool:=(((((decide ((1:Int)<=(x.job:Int)))&&(decide ((x.job:Int)<=(1073741824:Int))))&&([x.size,x.done,x.wait].all bC))&&(decide ((x.done:Int)<(x.size:Int))))&&(decide ((0:Int)<=(x.tries:Int))))&&(decide ((x.tries:Int)<=(20:Int)))
theorem NM (x) (w) (hx:x.Fit):cT 108 [.agg (eL.cells x).toArray] w fun v _=>v=.bool (EM x):=by
 refine aJ (args:=[.agg (eL.cells x).toArray]) func108 rfl ntmps108 (aA1 rfl) (rg (cO (cs:=eL.cells x) rfl rfl fun w1 B1 k1 z1 =>?_))
 have leB1:=aDl w.heap.size
 refine bU (nx ?_)
 refine sQ (_::_::_::_::_::_::_::_::_::_::_::_::_::_::_::(GV ((decide ((1:Int)<=(x.job:Int)))&&(decide ((x.job:Int)<=(1073741824:Int)))) (fun v w=>Rd 1 w v 3 3 [zi x.size,zi x.done,zi x.wait]))::(GV ((decide ((1:Int)<=(x.job:Int)))&&(decide ((x.job:Int)<=(1073741824:Int)))) (vE (.bool ([x.size,x.done,x.wait].all bC))))::_::_::_::_::_::_::_::_::_::_::_::_::_::_::_::_::_::_::_::[]) [(35,2)] [] rfl ⟨aA,aA,aA,aA,aD aA,aD aA,aD aA,aA,aA,aD aA,aD aA,aD aA,aD aA,aD aA,aD aA,aD zT,aD aA,aA,aA,aD aA,aD aA,aD aA,aD aA,aD aA,aA,aA,aD aA,aD aA,aD aA,aA,aA,aD aA,aD aA,aD aA,aA,aA,trivial⟩ (by kernel_rfl) rfl rfl rfl (fun S=>⟨
  jA 1 S rfl fun q=>yG q,
  fY [0] S rfl fun hT h=>cZ h.1 ((B1.below hT).cell 0 rfl),
  aP [1] S rfl fun h=>nU h.1 rfl,
  oW [(2,5)] [] S rfl fun _ _ _ h _=>dv aT h.1,
  qI 1 S rfl fun e q=>yG q,
  dM [4] S rfl fun e hT h=>cZ (h.1.1 e) ((B1.below hT).cell 0 rfl),
  dM [5] S rfl fun e _ h=>xV (h.1.1 e) rfl,
  aP [3,6] S rfl fun h=>cG h.1 (fun c=>h.2.1.1 c),
  oW [(7,10)] [] S rfl fun _ _ _ h _=>dv aT h.1,
  qI 1 S rfl fun e q=>Fk q,
  dM [9] S rfl fun e hT h=>cZ (h.1.1 e) ((B1.below hT).cell 2 rfl),
  qI 1 S rfl fun e q=>Fa q,
  dM [11] S rfl fun e hT h=>cZ (h.1.1 e) ((B1.below hT).cell 3 rfl),
  qI 1 S rfl fun e q=>Kf q,
  dM [13] S rfl fun e hT h=>cZ (h.1.1 e) ((B1.below hT).cell 5 rfl),
  og (kd:=11) ((decide ((1:Int)<=(x.job:Int)))&&(decide ((x.job:Int)<=(1073741824:Int)))) [(10,13),(12,15),(14,17)] [] S rfl rfl rfl rfl (fun _ _ h=>YO h) (fun _ e=>Wz e) (by rintro e g1 w1 hT ⟨h10,h12,h14,-⟩ -;exact dG e (xQ (h10.1 e) (h12.1 e) (h14.1 e))),
  oT [(15,18)] [] S rfl i2 gU fun e _ _ _ h _=>dG e (gV (a1 rfl) aAj (JA (l:=[x.size,x.done,x.wait]) (h.1.1 e) (by simp) (m3 hx.size hx.done hx.wait))),
  aP [8,16] S rfl fun h=>cG h.1 (fun c=>h.2.1.1 c),
  oW [(17,20)] [] S rfl fun _ _ _ h _=>dv aT h.1,
  qI 1 S rfl fun e q=>Fa q,
  dM [19] S rfl fun e hT h=>cZ (h.1.1 e) ((B1.below hT).cell 3 rfl),
  qI 1 S rfl fun e q=>Fk q,
  dM [21] S rfl fun e hT h=>cZ (h.1.1 e) ((B1.below hT).cell 2 rfl),
  dM [20,22] S rfl fun e _ h=>eT (h.1.1 e) (h.2.1.1 e),
  aP [18,23] S rfl fun h=>cG h.1 (fun c=>h.2.1.1 c),
  oW [(24,27)] [] S rfl fun _ _ _ h _=>dv aT h.1,
  qI 1 S rfl fun e q=>EJ q,
  dM [26] S rfl fun e hT h=>cZ (h.1.1 e) ((B1.below hT).cell 4 rfl),
  dM [27] S rfl fun e _ h=>nU (h.1.1 e) rfl,
  aP [25,28] S rfl fun h=>cG h.1 (fun c=>h.2.1.1 c),
  oW [(29,32)] [] S rfl fun _ _ _ h _=>dv aT h.1,
  qI 1 S rfl fun e q=>EJ q,
  dM [31] S rfl fun e hT h=>cZ (h.1.1 e) ((B1.below hT).cell 4 rfl),
  dM [32] S rfl fun e _ h=>xV (h.1.1 e) rfl,
  aP [30,33] S rfl fun h=>cG h.1 (fun c=>h.2.1.1 c),
  oW [(34,37)] [] S rfl fun _ _ _ h _=>dv kC h.1,
  trivial⟩) ?_
 rintro g2 w2 k2 ⟨s2,-⟩ -
 have b3:=aDu k1 k2
 exact aE (bT rfl b3 s2)
def AV (p s:eL) (k:Nat):Bool:=(!(EM s))||((decide ((0:Int)<((k:Nat):Int)))&&(decide ((s.job:Int)<=(p.job:Int))))
def gP (l:List eL):Bool:=(List.range l.length).all (fun k=>!AV (l[k - 1]!) (l[k]!) k)&&decide (l.length<=200)
theorem Ir (b) (c) (l:List eL) (w) (hN:l.length<=1000000) (hv:Rd 6 w (.slice b l.length c) l.length c (l.flatMap eL.cells)) (hf:∀ x∈l,x.Fit):cT 30 [.slice b l.length c] w fun v _=>v=zi (cA 190 (gP l)):=by
 refine aJ (args:=[.slice b l.length c]) func30 rfl ntmps30 (aA1 rfl) (rg (bU (nx (aF (rg (aN (.slice b l.length c) rfl (sq (aY underlying35 rfl) (rU (nx ?_)))))))))
 refine bD (fun k g W=>g 7=zi ((k:Nat):Int)/\g 6=zi (((l.length:Nat)):Int)/\g 0=.slice b l.length c/\g 2=zi (0)/\g 5=.slice b l.length c/\Below w.heap.size w W/\((List.range k).all (fun k=>!AV (l[k - 1]!) (l[k]!) k)=true)) l.length (by omega) (fun _ _ _ h=>⟨h.1,h.2.1⟩) ⟨rfl,rfl,rfl,rfl,rfl,aDt _ _,rfl⟩ rfl rfl (fun _ _ _ _ h=>h) ?_ ?_
 ·
  rintro k g1 w1 hk ⟨s7,s6,s0,s2,s5,b1,hP⟩
  obtain ⟨g,o,rfl,hg,hr⟩:=aD5 hv (aBg (aDm _) hk)
  refine rg (bI s7 (sq (bB underlying35 sizeOf124 s5 s7 hk) (sq (QN rfl (cQ eL.cells 6 eL.len hr hg b1 hk) rfl) (eA (cs:=[aV,.bool false,aV,aV,aV,aV]) zeroValue124 rfl fun w2 B2 k2 z2 =>?_))))
  have leB2:=b1.size
  have b3:=aDu b1 k2
  refine aW (zi (k:Nat)) rfl (KO (vs:=eL.cells l[k]) B2 sizeOf124 rfl rfl rfl rfl fun w4 B2n O4 z4 =>?_)
  replace B2:=B2n
  have b5:=aS.toBelow O4 b3 b3.size leB2
  refine nx ?_
  refine sD (_::(vE (.bool (EM l[k])))::_::_::_::_::_::_::_::_::_::_::_::_::_::_::_::_::[]) [(17,29)] [0,2,5,6,7] rfl ⟨aA,aA,aA,aA,aD aA,aD aA,aD aA,aD aA,aD aA,aD aA,aD aA,aD aA,aD aA,aD aA,aD aA,aD aA,aD aA,aA,trivial⟩ (by kernel_rfl) rfl rfl (fun S=>⟨
   iG 4 S rfl fun hT q=>QN q ((B2.below hT).range) rfl,
   oW [(0,12)] [] S rfl fun _ _ _ h _=>gV (a1 h.1) ZY (NM l[k] _ (hf _ (aBz hk))),
   aP [1] S rfl fun h=>cJ h.1,
   oW [(2,14)] [] S rfl fun _ _ _ h _=>dv aT h.1,
   tW S rfl rfl,
   cK [4] S rfl fun e _ h=>gH (h.1.1 e) rfl,
   oF [(5,17)] [] S rfl i2 gU fun e _ _ _ h _=>dv aT (mY e (h.1.1 e)),
   AZ [] [0] S rfl i2 gU fun e _ _ _ _ q=>dv aT (mY e (q.1.trans s0)),
   AZ [] [3] S rfl i2 gU fun e _ _ _ _ q=>dv aT (mY e q.1),
   rX [8] S rfl fun e _ h=>Gz (h.1.1 e) rfl (by have:=aBp (ar e);omega),
   rX [7,9] S rfl fun e _ h=>bB underlying35 sizeOf124 (h.1.1 e) (h.2.1.1 e) (aBg (aDv _ _) hk),
   rX [10] S rfl fun e _ h=>yG (h.1.1 e),
   rX [11] S rfl fun e hT h=>cZ (h.1.1 e) (cQ eL.cells 6 eL.len hr hg (aDu b5 hT) (aBg (aDv _ _) hk) 0 _ rfl),
   AZ [] [4] S rfl i2 gU fun e _ _ _ _ q=>dv (yG q.1) (mY e rfl),
   rX [13] S rfl fun e hT h=>cZ (h.1.1 e) ((B2.below hT).cell 0 rfl),
   rX [12,14] S rfl fun e _ h=>nU (h.1.1 e) (h.2.1.1 e),
   cK [6,15] S rfl fun e _ h=>cG (h.1.1 e) (fun c=>h.2.1.1 (aa e c)),
   aP [3,16] S rfl fun h=>dA h.1 (fun c=>h.2.1.1 (tn c)),
   trivial⟩) ?_
  rintro g6 w6 k6 ⟨s29,-⟩ ⟨o0,o2,o5,o6,o7,-⟩
  have s0:=o0.trans s0
  have s2:=o2.trans s2
  have s5:=o5.trans s5
  have s6:=o6.trans s6
  have s7:=o7.trans s7
  have b7:=aDu b5 k6
  refine cd s29 (fun c8=>?_) (fun c8=>?_)
  ·
   refine rg (bU (nx (aE ?_)))
   exact bT (R:=fun v _=>v=zi (cA 190 (gP l))) rfl b7 (aD6 (b:=(zi (190):Value)) rfl (aD7 (Value.int .i64) (oH (n:=190) (b:=gP l) (Bd (bad:=AV ) hk c8)).symm))
  ·
   exact aG (dO ⟨⟨rfl,s6,s0,s2,s5,b7,Ej (bad:=AV ) hk hP c8⟩,s7⟩)
 ·
  rintro g9 w9 ⟨s7,s6,s0,s2,s5,b9,hP⟩
  refine aF (rg (bI s0 (sq (aY underlying35 rfl) (sq (gH rfl rfl) (nx ?_)))))
  refine cd rfl (fun c10=>?_) (fun c10=>?_)
  ·
   refine rg (bU (nx (aE ?_)))
   exact bT (R:=fun v _=>v=zi (cA 190 (gP l))) rfl b9 (aD6 (b:=(zi (190):Value)) rfl (aD7 (Value.int .i64) (oH (n:=190) (b:=gP l) (Fq c10)).symm))
  ·
   refine aG (rg (bU (nx (aE ?_))))
   exact bT (R:=fun v _=>v=zi (cA 190 (gP l))) rfl b9 (aD6 (b:=(zi (0):Value)) rfl (aD7 (Value.int .i64) (uH (n:=190) (b:=gP l) (Eg hP c10)).symm))
def tP (x:cN):Bool:=((decide ((x.job:Int)<(0:Int)))||(decide ((1073741824:Int)<(x.job:Int))))||((!(x.up))&&(!decide ((x.job:Int)=(0:Int))))
theorem PS (x) (w)  : cT 110 [.agg (cN.cells x).toArray] w fun v _=>v=.bool (tP x):=by
 refine aJ (args:=[.agg (cN.cells x).toArray]) func110 rfl ntmps110 (aA1 rfl) (rg (cO (cs:=cN.cells x) rfl rfl fun w1 B1 k1 z1 =>?_))
 have leB1:=aDl w.heap.size
 refine bU (nx ?_)
 refine sQ (_::_::_::_::_::_::_::_::_::_::_::_::_::_::_::_::_::_::_::[]) [(18,2)] [] rfl ⟨aA,aA,aA,aA,aD aA,aD aA,aD aA,aA,aA,aD aA,aD aA,aD aA,aD aA,aD aA,aD aA,aD aA,aD aA,aA,aA,trivial⟩ (by kernel_rfl) rfl rfl rfl (fun S=>⟨
  jA 1 S rfl fun q=>Bg q,
  fY [0] S rfl fun hT h=>cZ h.1 ((B1.below hT).cell 2 rfl),
  aP [1] S rfl fun h=>eT h.1 rfl,
  oW [(2,5)] [] S rfl fun _ _ _ h _=>dv aT h.1,
  fW 1 S rfl fun e q=>Bg q,
  cK [4] S rfl fun e hT h=>cZ (h.1.1 e) ((B1.below hT).cell 2 rfl),
  cK [5] S rfl fun e _ h=>gH (h.1.1 e) rfl,
  aP [3,6] S rfl fun h=>dA h.1 (fun c=>h.2.1.1 (tn c)),
  oW [(7,10)] [] S rfl fun _ _ _ h _=>dv aT h.1,
  fW 1 S rfl fun e q=>Kp q,
  cK [9] S rfl fun e hT h=>DB (h.1.1 e) ((B1.below hT).cell 0 rfl),
  cK [10] S rfl fun e _ h=>cJ (h.1.1 e),
  oF [(11,14)] [] S rfl i2 gU fun e _ _ _ h _=>dv aT (mY e (h.1.1 e)),
  AZ [] [1] S rfl i2 gU fun e _ _ _ _ q=>dv (Bg q.1) (mY e rfl),
  rX [13] S rfl fun e hT h=>cZ (h.1.1 e) ((B1.below hT).cell 2 rfl),
  rX [14] S rfl fun e _ h=>gC (h.1.1 e) rfl,
  cK [12,15] S rfl fun e _ h=>cG (h.1.1 e) (fun c=>h.2.1.1 (aa e c)),
  aP [8,16] S rfl fun h=>dA h.1 (fun c=>h.2.1.1 (tn c)),
  oW [(17,20)] [] S rfl fun _ _ _ h _=>dv kC h.1,
  trivial⟩) ?_
 rintro g2 w2 k2 ⟨s2,-⟩ -
 have b3:=aDu k1 k2
 exact aE (bT rfl b3 s2)
def gF (l:List cN):Bool:=!(((decide ((((l.length:Nat):Int):Int)<(1:Int)))||(decide ((64:Int)<(((l.length:Nat):Int):Int))))||(l.any tP))
theorem ES {l:List cN} (h:(((decide ((((l.length:Nat):Int):Int)<(1:Int)))||(decide ((64:Int)<(((l.length:Nat):Int):Int))))||(l.any tP))=true):gF l=false:=by unfold gF;rw [h];rfl
theorem CS {l:List cN} (h:(((decide ((((l.length:Nat):Int):Int)<(1:Int)))||(decide ((64:Int)<(((l.length:Nat):Int):Int))))||(l.any tP))=false):gF l=true:=by unfold gF;rw [h];rfl
theorem Ju (b) (c) (l:List cN) (w) (hN:l.length<=1000000) (hv:Rd 3 w (.slice b l.length c) l.length c (l.flatMap cN.cells)):cT 32 [.slice b l.length c] w fun v _=>v=zi (cA 2 (gF l)):=by
 refine aJ (args:=[.slice b l.length c]) func32 rfl ntmps32 (aA1 rfl) (rg (bU (nx (aF ?_))))
 refine sQ (_::_::_::_::_::_::_::_::_::_::(GV (!((decide ((((l.length:Nat):Int):Int)<(1:Int)))||(decide ((64:Int)<(((l.length:Nat):Int):Int))))) (vE (.bool (l.any tP))))::_::[]) [(11,14)] [2] rfl ⟨aA,aA,aA,aA,aD aA,aD aA,aD aA,aA,aA,aD aA,aD aA,aA,trivial⟩ (by kernel_rfl) rfl rfl rfl (fun S=>⟨
  bF S rfl rfl,
  aP [0] S rfl fun h=>aY underlying36 h.1,
  aP [1] S rfl fun h=>eT h.1 rfl,
  oW [(2,5)] [] S rfl fun _ _ _ h _=>dv aT h.1,
  tW S rfl rfl,
  cK [4] S rfl fun e _ h=>aY underlying36 (h.1.1 e),
  cK [5] S rfl fun e _ h=>gH (h.1.1 e) rfl,
  aP [3,6] S rfl fun h=>dA h.1 (fun c=>h.2.1.1 (tn c)),
  oW [(7,10)] [] S rfl fun _ _ _ h _=>dv aT h.1,
  tW S rfl rfl,
  oF [(9,12)] [] S rfl i2 gU fun e _ _ hT h _=>dG e (gV (a2 (h.1.1 e) rfl) en109 (SY 110 [] tP b c l _ en110 (by omega) (hv.below hT) (fun W x _ _=>PS x W))),
  aP [8,10] S rfl fun h=>dA h.1 (fun c=>h.2.1.1 (tn c)),
  trivial⟩) ?_
 rintro g1 w1 k1 ⟨s14,-⟩ ⟨o2,-⟩
 refine cd s14 (fun c2=>?_) (fun c2=>?_)
 ·
  refine rg (bU (nx (aE ?_)))
  refine bT (R:=fun v _=>v=zi (cA 2 (gF l))) rfl k1 (aD6 (b:=(zi (2):Value)) rfl ?_)
  rw [oH (ES c2)]
 ·
  refine aG (rg (bU (nx (aE ?_))))
  refine bT (R:=fun v _=>v=zi (cA 2 (gF l))) rfl k1 (aD6 (b:=(zi (0):Value)) rfl ?_)
  rw [uH (CS c2)]
theorem Cj (n:Int):n=iH n↔0<=n/\n<=1099511627776:=by
 unfold iH;split
 ·omega
 ·split <;> omega
theorem VM {A C:Bool} {n:Int} (e:(!((A||!decide (n=iH n))||C))=true):0<=n/\n<=1099511627776:=by
 simp at e;exact (Cj n).1 e.1.2
def QC (z:Int) (x:aK):Bool:=(((decide ((x.at_:Int)<(z:Int)))||(!decide ((x.at_:Int)=(iH x.at_:Int))))||(decide ((x.len:Int)<(1:Int))))||(decide (((1099511627776:Int) - (x.at_:Int):Int)<(x.len:Int)))
theorem Fw {z:Int} {x:aK} (h:QC z x=false):z<=x.at_/\0<=x.at_/\x.at_<=1099511627776/\1<=x.len/\x.len<=1099511627776 - x.at_:=by
 unfold QC at h
 simp [<- Cj] at h
 have:=(Cj x.at_).1 h.1.1.2
 omega
def rV:Int->List aK->Bool
 | _,[]=>true
 | z,x::r=>!QC z x&&rV (x.at_+x.len) r
def cU (l:List aK):Bool:=decide (l.length<=1000)&&rV 0 (bO l)
theorem tR (l:List aK):(bO l).length=l.length:=(mD l).length_eq
theorem LP {l:List aK} {z:Int} (hk:k<l.length) (hP:rV 0 l=rV z (l.drop k)) (h:QC z l[k]=false):rV 0 l=rV (l[k].at_+l[k].len) (l.drop (k+1)):=by
 rw [hP,aAw hk,rV,h];rfl
theorem EO {l:List aK} (h:decide ((1000:Int)<((l.length:Nat):Int))=true):cU l=false:=by
 have:=aBp h
 unfold cU
 rw [show decide (l.length<=1000)=false from decide_eq_false (by omega)];rfl
theorem EZ {l:List aK} {z:Int} (hk:k<(bO l).length) (hP:rV 0 (bO l)=rV z ((bO l).drop k)) (h:QC z (bO l)[k]=true):cU l=false:=by
 unfold cU
 rw [hP,aAw hk,rV,h];simp
theorem Ev {l:List aK} {z:Int} (h:decide ((1000:Int)<((l.length:Nat):Int))=false) (hP:rV 0 (bO l)=rV z ((bO l).drop (bO l).length)):cU l=true:=by
 have:=aBe h
 unfold cU
 rw [hP,aCd,show decide (l.length<=1000)=true from decide_eq_true (by omega)];rfl
theorem Ad (b) (c) (l:List aK) (w) (hN:l.length<=1000000) (hv:Rd 2 w (.slice b l.length c) l.length c (l.flatMap aK.cells)) (hf:∀ x∈l,x.Fit):cT 114 [.slice b l.length c] w fun v _=>v=zi (cA 110 (cU l)):=by
 refine aJ (n:=47) func114 rfl ntmps114 (aA1 rfl) (rg (bU (nx (aF (rg (aN (.slice b l.length c) rfl (sq (aY underlying67 rfl) (sq (gH rfl rfl) (nx ?_)))))))))
 refine cd rfl (fun c1=>?_) (fun c1=>?_)
 ·
  refine rg (bU (nx (aE ?_)))
  exact bT (R:=fun v _=>v=zi (cA 110 (cU l))) rfl (aDt _ _) (aD6 (b:=(zi (110):Value)) rfl (aD7 (Value.int .i64) (oH (n:=110) (b:=cU l) (EO c1)).symm))
 ·
  refine aG (rg (bU (nx (aF (rg (aN (.slice b l.length c) rfl (cE VG (a1 rfl) (Cb b c l _ hN (hv.below (aDt _ _))) ?_)))))))
  rintro v2 w2 k2 ⟨bs,cs,rfl,hs,hown⟩
  refine sq (aY underlying67 rfl) (rU (nx ?_))
  refine bD (fun k g W=>∃ z:Int,g 12=zi ((k:Nat):Int)/\g 11=zi ((((bO l).length:Nat)):Int)/\g 2=zi (0)/\g 3=zi z/\g 10=.slice bs ((bO l).length) cs/\Below w2.heap.size w2 W/\Below w.heap.size w W/\(rV 0 (bO l)=rV z ((bO l).drop k))) ((bO l).length) (by rw [tR];omega) (fun _ _ _ ⟨z,h⟩=>⟨h.1,h.2.1⟩) ⟨0,rfl,rfl,rfl,rfl,rfl,aDt _ _,k2,rfl⟩ rfl rfl (fun _ _ _ _ h=>h) ?_ ?_
  ·
   rintro k g3 w3 hk ⟨z,s12,s11,s2,s3,s10,b3_w2,b3,hP⟩
   obtain ⟨g,o,rfl,hg,hr⟩:=aD5 hs (aBg (aDm _) hk)
   refine rg (sq (bB underlying67 sizeOf112 s10 s12 hk) (sq (bQ rfl (cQ aK.cells 2 aK.clen hr hg b3_w2 hk) rfl) (eA (cs:=[aV,aV]) zeroValue112 rfl fun w4 B4 k4 z4 =>?_)))
   have leB4:=b3.size
   have leB4_w2:=b3_w2.size
   have b5:=aDu b3 k4
   have b6:=aDu b3_w2 k4
   refine bR (vs:=aK.cells (bO l)[k]) B4 sizeOf112 rfl rfl rfl rfl fun w7 B4n O7 z7 =>?_
   replace B4:=B4n
   have b8:=aS.toBelow O7 b5 b5.size leB4
   have b9:=aS.toBelow O7 b6 b6.size leB4_w2
   refine nx (aF ?_)
   refine sD (_::_::_::_::_::_::_::_::_::(GV (!(decide (((bO l)[k].at_:Int)<(z:Int)))) (vE (zi (iH ((bO l)[k].at_)))))::_::_::_::_::_::_::_::_::_::_::_::_::_::_::_::[]) [(24,40)] [2,3,5,10,11,12] rfl ⟨aA,aA,aA,aA,aA,aD aA,aD aA,aD aA,aD aA,aD aA,aD aA,aA,aA,aD aA,aD aA,aD aA,aA,aA,aD aA,aD aA,aD aA,aD aA,aD aA,aD aA,aA,trivial⟩ (by kernel_rfl) rfl rfl (fun S=>⟨
    jA 5 S rfl fun q=>gW q,
    fY [0] S rfl fun hT h=>cZ h.1 ((B4.below hT).cell 0 rfl),
    bF S rfl s3,
    aP [1,2] S rfl fun h=>eT h.1 h.2.1,
    oW [(3,19)] [] S rfl fun _ _ _ h _=>dv aT h.1,
    fW 5 S rfl fun e q=>gW q,
    cK [5] S rfl fun e hT h=>cZ (h.1.1 e) ((B4.below hT).cell 0 rfl),
    fW 5 S rfl fun e q=>gW q,
    cK [7] S rfl fun e hT h=>cZ (h.1.1 e) ((B4.below hT).cell 0 rfl),
    oF [(8,24)] [] S rfl i2 gU fun e _ _ _ h _=>dG e (gV (a1 (h.1.1 e)) GU (AQ (gL ((bO l)[k].at_) _ ((hf _ ((mD l).mem_iff.1 (aBz hk))).at_).1 ((hf _ ((mD l).mem_iff.1 (aBz hk))).at_).2))),
    cK [6,9] S rfl fun e _ h=>gC (h.1.1 e) (h.2.1.1 e),
    aP [4,10] S rfl fun h=>dA h.1 (fun c=>h.2.1.1 (tn c)),
    oW [(11,27)] [] S rfl fun _ _ _ h _=>dv aT h.1,
    fW 5 S rfl fun e q=>gX q,
    cK [13] S rfl fun e hT h=>cZ (h.1.1 e) ((B4.below hT).cell 1 rfl),
    cK [14] S rfl fun e _ h=>eT (h.1.1 e) rfl,
    aP [12,15] S rfl fun h=>dA h.1 (fun c=>h.2.1.1 (tn c)),
    oW [(16,32)] [] S rfl fun _ _ _ h _=>dv aT h.1,
    fW 5 S rfl fun e q=>gX q,
    cK [18] S rfl fun e hT h=>cZ (h.1.1 e) ((B4.below hT).cell 1 rfl),
    fW 5 S rfl fun e q=>gW q,
    cK [20] S rfl fun e hT h=>cZ (h.1.1 e) ((B4.below hT).cell 0 rfl),
    cK [21] S rfl fun e _ h=>tB rfl (h.1.1 e) (⟨by have:=VM e;omega,by have:=VM e;omega⟩),
    cK [19,22] S rfl fun e _ h=>gH (h.1.1 e) (h.2.1.1 e),
    aP [17,23] S rfl fun h=>dA h.1 (fun c=>h.2.1.1 (tn c)),
    trivial⟩) ?_
   rintro g10 w10 k10 ⟨s40,-⟩ ⟨o2,o3,o5,o10,o11,o12,-⟩
   have s2:=o2.trans s2
   have s5:g10 5=pt w3.heap.size (0):=o5.trans rfl
   have s10:=o10.trans s10
   have s11:=o11.trans s11
   have s12:=o12.trans s12
   have b11:=aDu b8 k10
   have B4:=B4.below k10
   have b12:=aDu b9 k10
   refine cd s40 (fun c13=>?_) (fun c13=>?_)
   ·
    refine rg (bU (nx (aE ?_)))
    exact bT (R:=fun v _=>v=zi (cA 110 (cU l))) rfl b11 (aD6 (b:=(zi (110):Value)) rfl (aD7 (Value.int .i64) (oH (n:=110) (b:=cU l) (EZ hk hP c13)).symm))
   ·
    exact aG (eO (sq (gW s5) (sq (cZ rfl (B4.cell 0 rfl)) (sq (gX s5) (sq (cZ rfl (B4.cell 1 rfl)) (sq (iK rfl rfl (⟨by have:=Fw c13;omega,by have:=Fw c13;omega⟩)) (aW (zi (((bO l)[k].at_:Int)+((bO l)[k].len:Int))) rfl (nl (dO ⟨⟨((bO l)[k].at_:Int)+((bO l)[k].len:Int),rfl,s11,s2,rfl,s10,b12,b11,LP hk hP c13⟩,s12⟩)))))))))
  ·
   rintro g14 w14 ⟨z,s12,s11,s2,s3,s10,b14_w2,b14,hP⟩
   refine rg (bU (nx (aE ?_)))
   exact bT (R:=fun v _=>v=zi (cA 110 (cU l))) rfl b14 (aD6 (b:=(zi (0):Value)) rfl (aD7 (Value.int .i64) (uH (n:=110) (b:=cU l) (Ev c1 hP)).symm))
def Nx (p:Int):Bool:=(decide ((7:Int)<=(p:Int)))&&(decide ((p:Int)<=(10:Int)))
theorem QY (p:Int) (w)  : cT 204 [.int .u8 p] w fun v _=>v=.bool (Nx p):=by
 refine aJ (args:=[.int .u8 p]) func204 rfl ntmps204 (aA1 rfl) (rg (bU (nx ?_)))
 refine sQ (_::_::_::_::_::_::_::[]) [(6,2)] [] rfl ⟨aA,aA,aA,aD aA,aD aA,aA,aA,trivial⟩ (by kernel_rfl) rfl rfl rfl (fun S=>⟨
  bF S rfl rfl,
  aP [0] S rfl fun h=>nU h.1 rfl,
  oW [(1,4)] [] S rfl fun _ _ _ h _=>dv aT h.1,
  iP S rfl rfl,
  dM [3] S rfl fun e _ h=>xV (h.1.1 e) rfl,
  aP [2,4] S rfl fun h=>cG h.1 (fun c=>h.2.1.1 c),
  oW [(5,8)] [] S rfl fun _ _ _ h _=>dv kC h.1,
  trivial⟩) ?_
 rintro g1 w1 k1 ⟨s2,-⟩ -
 exact aE (bT rfl k1 s2)
def pF (x:dH):Bool:=Nx (x.phase:Int)
theorem QX (x:dH) (w)  : cT 156 [.agg (dH.cells x).toArray] w fun v _=>v=.bool (pF x):=by
 refine aJ (args:=[.agg (dH.cells x).toArray]) func156 rfl ntmps156 (aA1 rfl) (rg (cO (cs:=dH.cells x) rfl rfl fun w1 B1 k1 z1 =>?_))
 have leB1:=aDl w.heap.size
 refine bU (nx (rg (sq (tC rfl) (sq (Nr rfl (B1.cell 13 rfl)) (cE en204 (a1 rfl) (QY (x.phase:Int) _) ?_)))))
 rintro _ w2 k2 rfl
 have b3:=aDu k1 k2
 exact aW (.bool (Nx (x.phase:Int))) rfl (nx (aE (bT rfl b3 rfl)))
def Ab (s:ByteArray):Bool:=(decide ((1:Int)<=((s).size:Int)))&&(decide (((s).size:Int)<=(32:Int)))
theorem Qv (s) (w)  : cT 119 [.string s] w fun v _=>v=.bool (Ab s):=by
 refine aJ (args:=[.string s]) func119 rfl ntmps119 (aA1 rfl) (rg (bU (nx ?_)))
 refine sQ (_::_::_::_::_::_::_::_::_::[]) [(8,2)] [] rfl ⟨aA,aA,aA,aA,aD aA,aD aA,aD aA,aA,aA,trivial⟩ (by kernel_rfl) rfl rfl rfl (fun S=>⟨
  bF S rfl rfl,
  aP [0] S rfl fun h=>wD underlying9 h.1,
  aP [1] S rfl fun h=>nU h.1 rfl,
  oW [(2,5)] [] S rfl fun _ _ _ h _=>dv aT h.1,
  iP S rfl rfl,
  dM [4] S rfl fun e _ h=>wD underlying9 (h.1.1 e),
  dM [5] S rfl fun e _ h=>xV (h.1.1 e) rfl,
  aP [3,6] S rfl fun h=>cG h.1 (fun c=>h.2.1.1 c),
  oW [(7,10)] [] S rfl fun _ _ _ h _=>dv kC h.1,
  trivial⟩) ?_
 rintro g1 w1 k1 ⟨s2,-⟩ -
 exact aE (bT rfl k1 s2)
theorem tt {t:Bool} (h:(!t)=false):t=true:=by cases t <;> first | rfl | cases h
def Hd (l:List eY):Nat->ByteArray
 | 0=>⟨#[]⟩
 | k+1=>(l[k]!).name
def aU (l:List eY):List (ByteArray × eY):=(List.range l.length).map fun k=>(Hd l k,l[k]!)
theorem iZ (l:List eY):(aU l).length=l.length:=by simp [aU]
theorem DO {l:List eY} (hk:k<l.length):(aU l)[k]'(by rw [iZ];exact hk)=(Hd l k,l[k]):=by simp [aU,hk]
theorem Nc {l:List eY} {k:Nat} (hk:k<l.length):Value.string l[k].name=.string (Hd l (k+1)):=by simp [Hd,hk]
theorem nR {M R:Nat->Prop} (h:¬ M b) (h2:¬ R b):¬ (M b\/R b):=fun k=>k.elim h h2
theorem Gu {R:Nat->Prop} {S A b:Nat} (h:∀ i,R i->S<=i/\i<A) (k:b<S):¬ R b:=fun e=>by have:=(h b e).1;omega
theorem Zz {R:Nat->Prop} {S A b:Nat} (h:∀ i,R i->S<=i/\i<A) (k:A<=b):¬ R b:=fun e=>by have:=(h b e).2;omega
theorem Bp {R R':Nat->Prop} {S A0 A B:Nat} (h:∀ i,R i->S<=i/\i<A0) (hs:∀ i,R' i->R i\/A<=i/\i<B) (h1:A0<=A) (h2:S<=A) (h3:A<=B):∀ i,R' i->S<=i/\i<B:=fun i hi=>by
 rcases hs i hi with e | e
 ·have:=h i e;omega
 ·omega
def encP (p:ByteArray × eY):List Value:=[.string p.1,.agg p.2.cells.toArray]
theorem BC (bs) (s:aZ) (w) (hB0:Bk bs s.cells 29 w) (hR0:s.At w) (hN:s.pools.length<9223372036854775807):
  Ry 149 [pt bs 0] encP (aU s.pools) (fun M=>¬ M bs/\∀ b,(Value.slice s.pb s.pools.length s.pc).ownBlock=some b->¬ M b) w:=by
 intro l M J Jx Pn W0 hW hMok hM2 st stx j0 rounds
 have hB:=hB0.below hW
 have hRd:Rd 5 W0 (.slice s.pb s.pools.length s.pc) s.pools.length s.pc (s.pools.flatMap eY.cells):=Rd.below hR0 hW
 have hBl:=hB.lt
 have hRl:=hRd.lt
 refine aJ (n:=21) func149 rfl ntmps149 (aA1 rfl) (rg (bU (nx (rg (sq (nJ rfl) (sq (CR rfl (hB.cell 1 rfl)) (sq (aY underlying23 rfl) (rU (nx ?_)))))))))
 refine bD (fun k g W=>∃ S:Nat,∃ R:Nat->Prop,g 9=zi ((k:Nat):Int)/\g 8=zi (((s.pools.length:Nat)):Int)/\g 0=yf l/\g 3=.string (Hd s.pools k)/\g 7=.slice s.pb s.pools.length s.pc/\Bk bs s.cells 29 W/\(J S R k W/\W0.heap.size<=S/\S<=W.heap.size/\Rd 5 W (.slice s.pb s.pools.length s.pc) s.pools.length s.pc (s.pools.flatMap eY.cells)/\(∀ i,R i->S<=i/\i<W.heap.size))) s.pools.length hN (fun _ _ _ ⟨S,R,h⟩=>⟨h.1,h.2.1⟩) ⟨W0.heap.size,fun _=>False,rfl,rfl,rfl,rfl,rfl,hB,⟨j0 _ (aDt _ _),aDl _,aDl _,hRd,fun _ h=>h.elim⟩⟩ rfl rfl (fun _ _ _ _ h=>h) ?_ ?_
 ·
  rintro k g1 w1 hk ⟨S,R,s9,s8,s0,s3,s7,hB,hP⟩
  have hnB:¬ (M bs\/R bs):=nR hMok.1 (Gu hP.2.2.2.2 (aBi hBl hP.2.1))
  have hnR:∀ b,(Value.slice s.pb s.pools.length s.pc).ownBlock=some b->¬ (M b\/R b):=fun b hb=>nR (hMok.2 b hb) (Gu hP.2.2.2.2 (aBi (hRl b hb) hP.2.1))
  obtain ⟨g,o,hge,hg,hr⟩:=aD5 hP.2.2.2.1 (aBg (aDm _) hk)
  have s7b:=s7
  rw [hge] at s7b
  refine rg (sq (bB underlying23 sizeOf143 s7b s9 hk) (sq (OY rfl (cQ eY.cells 5 eY.len hr hg (aDt _ _) hk) rfl) (eA (cs:=zl7) zeroValue143 rfl fun w2 B2 k2 z2 =>?_)))
  have nhB_B2:=aC8 hB.lt
  have leB2_w1:=aDl w1.heap.size
  have hB:=hB.below k2
  refine bR (vs:=eY.cells s.pools[k]) B2 sizeOf143 rfl rfl rfl rfl fun w3 B2n O3 z3 =>?_
  replace B2:=B2n
  have hB:=hB.only O3 nhB_B2
  have b4:=aS.toBelow O3 k2 k2.size leB2_w1
  refine nx (aF (rg (bI s0 (bI s3 (sq (OY rfl B2.range rfl) ?_)))))
  have hy:=rounds S R k _ (by rw [iZ];exact hk) (st _ _ _ _ _ hP.1 (aDr b4)) hP.2.1 (aC7 hP.2.2.1 b4.size) (fun i hi=>⟨(hP.2.2.2.2 i hi).1,aBi (hP.2.2.2.2 i hi).2 b4.size⟩)
  rw [DO hk] at hy
  refine cyB rfl (a2 rfl rfl) hy (fun c w' h=>And.intro (rfl:(fr _ [] _).defers=[]) (Or.inr ⟨c,rfl,h⟩)) fun t5 w5 k5 jt5 jf5 =>?_
  have hB:=hB.km k5 hnB
  have B2:=B2.km k5 (nR (hM2 _ (aC7 (aC7 hP.2.1 hP.2.2.1) leB2_w1)) (Zz hP.2.2.2.2 leB2_w1))
  refine sq (cJ rfl) (nx ?_)
  refine cd rfl (fun c6=>?_) (fun c6=>?_)
  ·
   exact aE (uS rfl (Or.inl ⟨_,rfl,S,R,hP.2.1,(aC7 (aC7 hP.2.2.1 b4.size) k5.size),Or.inr (jf5 (nt c6))⟩))
  ·
   refine aG (eO (sq (Bh rfl) (sq (nY rfl (B2.cell 0 rfl)) (aW (.string (s.pools[k].name)) rfl (nl ?_)))))
   obtain ⟨R2,hJ2,hRs⟩:=jt5 (tt c6)
   exact dO ⟨⟨S,R2,rfl,s8,s0,(Nc hk),s7,hB,⟨hJ2,hP.2.1,(aC7 (aC7 hP.2.2.1 b4.size) k5.size),(Rd.km (hP.2.2.2.1.below b4) k5 hnR),Bp hP.2.2.2.2 hRs b4.size (aC7 hP.2.2.1 b4.size) k5.size⟩⟩,s9⟩
 ·
  rintro g7 w7 ⟨S,R,s9,s8,s0,s3,s7,hB,hP⟩
  rw [<- iZ] at hP
  exact fV rfl (Or.inl ⟨_,rfl,S,R,hP.2.1,hP.2.2.1,Or.inl hP.1⟩)
theorem QU {α:Type} {p:α->Bool} {l:List α} (hk:k<l.length) (h:p l[k]=true):((l.take (k+1)).filter p).length=((l.take k).filter p).length+1:=by
 rw [aAr hk,aBl,aBh];simp [h]
theorem TY {α:Type} {p:α->Bool} {l:List α} (hk:k<l.length) (h:p l[k]=false):((l.take (k+1)).filter p).length=((l.take k).filter p).length:=by
 rw [aAr hk,aBl,aBh];simp [h]
theorem UW {α:Type} {p:α->Bool} {l:List α} (hk:k<l.length) (h:p l[k]=true):∃ hm:((l.take k).filter p).length<(l.filter p).length,(l.filter p)[((l.take k).filter p).length]=l[k]:=by
 have e:l.filter p=(l.take k).filter p++(l[k]::(l.drop (k+1)).filter p):=by
  conv=>lhs;rw [<- aA2 k l,aAw hk]
  rw [aBl,List.filter_cons,aEc h]
 have hm:((l.take k).filter p).length<(l.filter p).length:=by rw [e];simp
 refine ⟨hm,?_⟩
 have:=List.getElem?_append_right (l₁:=(l.take k).filter p) (l₂:=l[k]::(l.drop (k+1)).filter p) (i:=((l.take k).filter p).length) (aDl _)
 rw [<- e,Nat.sub_self,List.getElem?_eq_getElem hm] at this
 simpa using this
def encJ (j:dH):List Value:=[.agg j.cells.toArray]
theorem MU (bt bf) (next:Int) (jb) (jc) (L:List dH) (w) (hB0:Bk bt [zi next,.slice jb L.length jc] 32 w) (hF0:Bk bf [.func (.func 156) #[] #[]] 186 w)
  (hR0:Rd 19 w (.slice jb L.length jc) L.length jc (L.flatMap dH.cells)) (hN:L.length<9223372036854775807):
  Ry 203 [pt bt 0,pt bf 0] encJ (L.filter pF) (fun M=>¬ M bt/\¬ M bf/\∀ b,(Value.slice jb L.length jc).ownBlock=some b->¬ M b) w:=by
 intro l M J Jx Pn W0 hW hMok hM2 st stx j0 rounds
 have hB:=hB0.below hW
 have hF:=hF0.below hW
 have hRd:=hR0.below hW
 have hBl:=hB.lt
 have hFl:=hF.lt
 have hRl:=hRd.lt
 refine aJ (n:=23) func203 rfl ntmps203 (aA1 rfl) (rg (sq (qN rfl) (sq (Gr rfl (hB.cell 1 rfl)) (sq (aY underlying30 rfl) (rU (nx ?_))))))
 refine bD (fun k g W=>∃ S:Nat,∃ R:Nat->Prop,g 9=zi ((k:Nat):Int)/\g 8=zi (((L.length:Nat)):Int)/\g 0=yf l/\g 2=pt bf (0)/\g 7=.slice jb L.length jc/\Bk bt ([zi next,.slice jb L.length jc]) 32 W/\Bk bf ([.func (.func 156) #[] #[]]) 186 W/\(J S R ((L.take k).filter pF).length W/\W0.heap.size<=S/\S<=W.heap.size/\Rd 19 W (.slice jb L.length jc) L.length jc (L.flatMap dH.cells)/\(∀ i,R i->S<=i/\i<W.heap.size))) L.length hN (fun _ _ _ ⟨S,R,h⟩=>⟨h.1,h.2.1⟩) ⟨W0.heap.size,fun _=>False,rfl,rfl,rfl,rfl,rfl,hB,hF,⟨j0 _ (aDt _ _),aDl _,aDl _,hRd,fun _ h=>h.elim⟩⟩ rfl rfl (fun _ _ _ _ h=>h) ?_ ?_
 ·
  rintro k g1 w1 hk ⟨S,R,s9,s8,s0,s2,s7,hB,hF,hP⟩
  have hnB:¬ (M bt\/R bt):=nR hMok.1 (Gu hP.2.2.2.2 (aBi hBl hP.2.1))
  have hnF:¬ (M bf\/R bf):=nR hMok.2.1 (Gu hP.2.2.2.2 (aBi hFl hP.2.1))
  have hnR:∀ b,(Value.slice jb L.length jc).ownBlock=some b->¬ (M b\/R b):=fun b hb=>nR (hMok.2.2 b hb) (Gu hP.2.2.2.2 (aBi (hRl b hb) hP.2.1))
  obtain ⟨g,o,rfl,hg,hr⟩:=aD5 hP.2.2.2.1 (aBg (aDm _) hk)
  refine rg (sq (bB underlying30 sizeOf99 s7 s9 hk) (sq (IJ rfl (cQ dH.cells 19 dH.len hr hg (aDt _ _) hk) rfl) (eA (cs:=ZA) zeroValue99 rfl fun w2 B2 k2 z2 =>?_)))
  have nhB_B2:=aC8 hB.lt
  have nhF_B2:=aC8 hF.lt
  have leB2_w1:=aDl w1.heap.size
  have hB:=hB.below k2
  have hF:=hF.below k2
  refine bR (vs:=dH.cells L[k]) B2 sizeOf99 rfl rfl rfl rfl fun w3 B2n O3 z3 =>?_
  replace B2:=B2n
  have hB:=hB.only O3 nhB_B2
  have hF:=hF.only O3 nhF_B2
  have b4:=aS.toBelow O3 k2 k2.size leB2_w1
  refine nx (rg (sq (ld186 s2 (hF.cell 0 rfl)) (sq (IJ rfl B2.range rfl) (RC (caps:=[]) en156 rfl (ac (a1 rfl)) (QX L[k] _) ?_))))
  rintro _ w5 k5 rfl
  have hB:=hB.below k5
  have hF:=hF.below k5
  have B2:=B2.below k5
  have b6:=aDu b4 k5
  refine aN (.bool (pF L[k])) rfl ?_
  rcases Bool.eq_false_or_eq_true (pF L[k]) with hs7 | hs7
  ·
   refine BQ (yf l) rfl (aD7 Value.bool hs7) aT s0 (BQ (.agg (dH.cells L[k]).toArray) rfl (aD7 Value.bool hs7) (IJ rfl B2.range rfl) rfl ?_)
   obtain ⟨hm,hat⟩:=UW hk hs7
   have hy:=rounds S R _ _ hm (st _ _ _ _ _ hP.1 (aDr b6)) hP.2.1 (aC7 hP.2.2.1 b6.size) (fun i hi=>⟨(hP.2.2.2.2 i hi).1,aBi (hP.2.2.2.2 i hi).2 b6.size⟩)
   rw [hat] at hy
   refine cyBg rfl (aD7 Value.bool hs7) rfl (a1 rfl) hy (fun c w' h=>And.intro (rfl:(fr _ [] _).defers=[]) (Or.inr ⟨c,rfl,h⟩)) fun t8 w8 k8 jt8 jf8 =>?_
   have hB:=hB.km k8 hnB
   have hF:=hF.km k8 hnF
   refine BQ (.bool (!(t8))) rfl (aD7 Value.bool hs7) (cJ rfl) rfl (iJ (.bool (!(t8))) (uK (aD7 Value.bool hs7)) rfl (nx ?_))
   refine cd rfl (fun c9=>?_) (fun c9=>?_)
   ·
    exact aE (uS rfl (Or.inl ⟨_,rfl,S,R,hP.2.1,(aC7 (aC7 hP.2.2.1 b6.size) k8.size),Or.inr (jf8 (nt c9))⟩))
   ·
    refine aG ?_
    obtain ⟨R2,hJ2,hRs⟩:=jt8 (tt c9)
    exact dO ⟨⟨S,R2,rfl,s8,s0,s2,s7,hB,hF,⟨by rw [QU hk hs7];exact hJ2,hP.2.1,(aC7 (aC7 hP.2.2.1 b6.size) k8.size),(Rd.km (hP.2.2.2.1.below b6) k8 hnR),Bp hP.2.2.2.2 hRs b6.size (aC7 hP.2.2.1 b6.size) k8.size⟩⟩,s9⟩
  ·
   exact sn rfl (aD7 Value.bool hs7) rfl (sn rfl (aD7 Value.bool hs7) rfl (sn rfl (aD7 Value.bool hs7) rfl (sn rfl (aD7 Value.bool hs7) rfl (iJ (.bool false) (DE (aD7 Value.bool hs7)) rfl (nx (rM rfl (aG (dO ⟨⟨S,R,rfl,s8,s0,s2,s7,hB,hF,⟨by rw [TY hk hs7];exact st _ _ _ _ _ hP.1 (aDr b6),hP.2.1,aC7 hP.2.2.1 b6.size,hP.2.2.2.1.below b6,fun i hi=>⟨(hP.2.2.2.2 i hi).1,aBi (hP.2.2.2.2 i hi).2 b6.size⟩⟩⟩,s9⟩))))))))
 ·
  rintro g10 w10 ⟨S,R,s9,s8,s0,s2,s7,hB,hF,hP⟩
  rw [aCb] at hP
  exact fV rfl (Or.inl ⟨_,rfl,S,R,hP.2.1,hP.2.2.1,Or.inl hP.1⟩)
theorem NV (next:Int) (jb) (jc) (L:List dH) (w):cT 155 [.agg [zi next,.slice jb L.length jc].toArray,.func (.func 156) #[] #[]] w fun v W=>∃ bt bf,v=.func (.func 203) #[] #[pt bt 0,pt bf 0]/\Bk bt [zi next,.slice jb L.length jc] 32 W/\Bk bf [.func (.func 156) #[] #[]] 186 W/\w.heap.size<=bt/\w.heap.size<=bf:=by
 refine aJ (n:=6) func155 rfl ntmps155 (aA1 rfl) (rg (cO (cs:=[zi next,.slice jb L.length jc]) rfl rfl fun w1 B1 k1 z1 =>?_))
 have leB1:=aDl w.heap.size
 refine cO (cs:=[.func (.func 156) #[] #[]]) rfl rfl fun w2 B2 k2 z2 =>?_
 have nB1_B2:=aC8 B1.lt
 have leB2:=k1.size
 have b3:=aDu k1 k2
 have B1:=B1.below k2
 exact aW (.nilFunc) rfl (nx (rg (sq (mf2 rfl rfl) (aW (.func (.func 203) #[] #[pt w.heap.size (0),pt w1.heap.size (0)]) rfl (nx (aE (bT rfl b3 ⟨_,_,rfl,B1,B2,leB1,leB2⟩)))))))
theorem Mw (next:Int) (jb) (jc) (L:List dH) (w) (hN:L.length<=1000000) (hv:Rd 19 w (.slice jb L.length jc) L.length jc (L.flatMap dH.cells)):cT 103 [.agg [zi next,.slice jb L.length jc].toArray] w fun v _=>v=zi (((L.filter pF).length:Nat):Int):=by
 refine qV (n:=10) func103 rfl ntmps103 (aA1 rfl) ?_
 refine jI (Ae (eO (cO (cs:=[zi next,.slice jb L.length jc]) rfl rfl fun w1 B1 k1 z1 =>?_)))
 have leB1:=aDl w.heap.size
 refine bU (nl ?_)
 refine jI (Ae (eO (eA (cs:=[aV]) zeroValue3 rfl fun w2 B2 k2 z2 =>?_)))
 have nB1_B2:=aC8 B1.lt
 have leB2:=k1.size
 have b3:=aDu k1 k2
 have B1:=B1.below k2
 refine eP B2 sizeOf3 rfl rfl rfl rfl fun w4 B2n O4 z4 =>?_
 replace B2:=B2n
 have b5:=aS.toBelow O4 b3 b3.size leB2
 have B1:=B1.only O4 nB1_B2
 refine nl (jI ?_)
 refine jI (Ae (eO (sq (PU rfl B1.range rfl) ?_)))
 have B2s:=B2
 refine cE Zx (a2 rfl rfl) (NV next jb jc L _) ?_
 rintro v6 w6 k6 ⟨bt,bf,rfl,hBt,hBf,let_,lef⟩
 have b7:=aDu b5 k6
 have B2:=B2.below k6
 refine nl ?_
 have hnt:w1.heap.size<bt:=aBi B2s.lt let_
 have hnf:w1.heap.size<bf:=aBi B2s.lt lef
 have hnl:=B2.lt
 have hrow:∀ b,(Value.slice jb L.length jc).ownBlock=some b->b<w.heap.size:=fun b hb=>hv.lt b hb
 have hwn:=leB2
 refine wZ ?_
 refine tA (f0:=103) func103 rfl en203 (MU bt bf next jb jc L _ hBt hBf (hv.below b7) (by omega)) (fun _=>rfl) (·=w1.heap.size) (fun i hi h=>by omega) (⟨fun h=>by have:=hBt.lt;omega,fun h=>by have:=hBf.lt;omega,fun b hb h=>by have:=hrow b hb;have:=b7.size;omega⟩) (fun S R k W=>Bk w1.heap.size [zi ((k:Nat):Int)] 3 W/\Below w.heap.size w W) (fun _ _ _=>False) (fun _ _=>False) ?_ ?_ ?_ ?_ ?_ ?_ ?_
 ·rintro S R k A B ⟨h1,h2⟩ hk;exact ⟨h1.km hk (fun h=>by omega),hk.toBelow h2 h2.size (fun i hi=>by have:=b7.size;omega)⟩
 ·intro _ _ _ _ h _;exact h.elim
 ·intro A hA;exact ⟨B2.below hA,aDu b7 hA⟩
 ·
  intro S R k A hk hJ hlA hS hSA hRb
  obtain ⟨hN,hbl⟩:=hJ
  refine aG ?_
  refine ⟨aD8 _ _,?_⟩
  intro w8 O8
  have hN:=hN.only O8 (by omega)
  have b9:=aS.toBelow O8 hbl hbl.size (aC7 b7.size (aDq _))
  refine aO (eO (sq (EI rfl (hN.cell 0 rfl)) (sq (iK rfl rfl (⟨by omega,by have:=aA4 pF L;omega⟩)) (eP hN sizeOf3 rfl rfl rfl rfl fun w10 hNn O10 z10 =>?_))))
  replace hN:=hNn
  have b11:=aS.toBelow O10 b9 b9.size leB2
  have m12:KM (fun i=>(·=w1.heap.size) i\/R i) w8 w10:=(aD8 _ _).only O10 (.inl (.inl rfl))
  exact nl ⟨⟨fun _=>False,⟨(by rw [show (((k:Nat):Int)+1)=(((k+1:Nat)):Int) from by omega] at hN;exact hN),b11⟩,fun _ h=>h.elim⟩,m12⟩
 ·intro _ _ h;exact h.elim
 ·
  intro S R w13 hJ hS hSB hD
  obtain ⟨hN,hbl⟩:=hJ
  refine Ae (rg (sq (EI rfl (hN.cell 0 rfl)) (aW (zi (((L.filter pF).length:Nat):Int)) rfl (nx (aE ?_)))))
  refine wK hD fun w9 O9=>⟨_,res1 rfl,_,rfl,aS.toBelow O9 hbl hbl.size (by have:=hbl.size;omega),?_⟩
  rfl
 ·intro _ _ _ h;exact h.elim
def dL:aK->List aK->List aK
 | z,[]=>if 0<z.len then [z] else []
 | z,x::r=>if z.len=0 then dL x r else if z.at_+z.len=x.at_ then dL ⟨z.at_,z.len+x.len⟩ r else z::dL x r
def Ur (x:aK):Prop:=0<=x.at_/\x.at_<=1099511627776/\1<=x.len/\x.len<=1099511627776 - x.at_
theorem KN: ∀ {l:List aK} {z:Int},rV z l=true->∀ x∈l,Ur x
 | [],_,_,x,hx=>by cases hx
 | y::r,z,h,x,hx=>by
  simp only [rV,aB0,aBt] at h
  rcases aC0.1 hx with rfl | hx
  ·have:=Fw h.1;exact ⟨by omega,by omega,by omega,by omega⟩
  ·exact KN h.2 x hx
theorem oY {l:List aK} (h:cU l=true):∀ x∈bO l,Ur x:=by
 unfold cU at h
 exact KN (Bool.and_eq_true_iff.1 h).2
theorem Zh {na nl:Int} {l X:List aK} (hk:k<l.length) (h:nl=0) (hd:X.drop m=dL ⟨na,nl⟩ (l.drop k)):X.drop m=dL ⟨l[k].at_,l[k].len⟩ (l.drop (k+1)):=by
 rw [hd,aAw hk,dL,aEc h]
theorem joinB {na nl:Int} {l X:List aK} (hk:k<l.length) (h:¬ nl=0) (h2:na+nl=l[k].at_) (hd:X.drop m=dL ⟨na,nl⟩ (l.drop k)):X.drop m=dL ⟨na,nl+l[k].len⟩ (l.drop (k+1)):=by
 rw [hd,aAw hk,dL,aEd h,aEc h2]
theorem Zf {na nl:Int} {l X:List aK} (hk:k<l.length) (h:¬ nl=0) (h2:¬ na+nl=l[k].at_) (hd:X.drop m=dL ⟨na,nl⟩ (l.drop k)):X.drop m=⟨na,nl⟩::dL ⟨l[k].at_,l[k].len⟩ (l.drop (k+1)):=by
 rw [hd,aAw hk,dL,aEd h,aEd h2]
theorem DJ {α:Type} {X r:List α} {x:α} (h:X.drop m=x::r):∃ hm:m<X.length,X[m]=x/\X.drop (m+1)=r:=by
 have hm:m<X.length:=by
  rcases aDd m X.length with h' | h'
  ·exact h'
  ·rw [List.drop_of_length_le h'] at h;cases h
 rw [aAw hm] at h
 exact ⟨hm,List.cons.inj h⟩
def encX (x:aK):List Value:=[.agg x.cells.toArray]
theorem joinE {na nl:Int} {l X:List aK} (h:0<nl) (hd:X.drop m=dL ⟨na,nl⟩ (l.drop l.length)):X.drop m=⟨na,nl⟩::[]:=by
 rw [hd,aCd,dL];simp [h]
theorem joinN {na nl:Int} {l X:List aK} (h:¬ 0<nl) (hd:X.drop m=dL ⟨na,nl⟩ (l.drop l.length)) (hm:m<=X.length):m=X.length:=by
 rw [aCd,dL] at hd
 simp [h] at hd
 omega
theorem Qq {α:Type} {X:List α} {m:Nat} (hm:m<X.length) (h:X.drop (m+1)=[]):m+1=X.length:=by
 have:=List.drop_eq_nil_iff.1 h;omega
theorem FY (bl) (b) (c) (l:List aK) (w) (hB0:Bk bl [.slice b l.length c] 67 w) (hv0:Rd 2 w (.slice b l.length c) l.length c (l.flatMap aK.cells)) (hN:l.length<=1000000) (hval:∀ x∈bO l,Ur x):
  Ry 239 [pt bl 0] encX (dL ⟨0,0⟩ (bO l)) (fun _=>True) w:=by
 intro lr M J Jx Pn W0 hW hMok hM2 st stx j0 rounds
 have hB:=hB0.below hW
 have hRl:=hv0.below hW
 refine aJ (n:=45) func239 rfl ntmps239 (aA1 rfl) (rg (eA (cs:=[aV,aV]) zeroValue112 rfl fun w1 B1 k1 z1 =>?_))
 have nhB_B1:=aC8 hB.lt
 have leB1:=aDl W0.heap.size
 have hB:=hB.below k1
 refine nx (aF (rg (sq (uF rfl (hB.cell 0 rfl)) (cE VG (a1 rfl) (Cb b c l _ hN (hRl.below k1)) ?_))))
 rintro v2 w2 k2 ⟨bs,cs,rfl,hs,hown0⟩
 have b3:=aDu k1 k2
 have B1:=B1.below k2
 have hown1:∀ k,(Value.slice bs (bO l).length cs).ownBlock=some k->W0.heap.size<k:=fun k hk=>by have:=hown0 k hk;omega
 refine sq (aY underlying67 rfl) (rU (nx ?_))
 refine bD (fun k g W=>∃ S:Nat,∃ R:Nat->Prop,∃ m:Nat,∃ za:Int,∃ zl:Int,g 9=zi ((k:Nat):Int)/\g 8=zi ((((bO l).length:Nat)):Int)/\g 0=yf lr/\g 3=pt W0.heap.size (0)/\g 7=.slice bs ((bO l).length) cs/\Bk W0.heap.size ([zi za,zi zl]) 112 W/\(J S R m W/\W0.heap.size<=S/\W0.heap.size<S/\S<=W.heap.size/\Rd 2 W (.slice bs ((bO l).length) cs) (bO l).length cs ((bO l).flatMap aK.cells)/\(dL ⟨0,0⟩ (bO l)).drop m=dL ⟨za,zl⟩ ((bO l).drop k)/\m<=(dL ⟨0,0⟩ (bO l)).length/\0<=za/\0<=zl/\za+zl<=1099511627776/\(∀ i,R i->S<=i/\i<W.heap.size)/\(∀ k,(Value.slice bs (bO l).length cs).ownBlock=some k->k<S))) ((bO l).length) (by rw [tR];omega) (fun _ _ _ ⟨S,R,m,za,zl,h⟩=>⟨h.1,h.2.1⟩) ⟨w2.heap.size,fun _=>False,0,0,0,rfl,rfl,rfl,rfl,rfl,B1,⟨j0 _ b3,b3.size,aBi B1.lt (aDl _),aDl _,hs.below (aDt _ _),rfl,aDm _,by omega,by omega,by omega,fun _ h=>h.elim,hs.lt⟩⟩ rfl rfl (fun _ _ _ _ h=>h) ?_ ?_
 ·
  rintro k g4 w4 hk ⟨S,R,m,za,zl,s9,s8,s0,s3,s7,B1,⟨hJ,hWS,hbS,hSW,hRd,hdr,hmX,hn1,hn2,hn3,hRb,hrS⟩⟩
  have hne:∀ k,(Value.slice bs (bO l).length cs).ownBlock=some k->¬ k=W0.heap.size:=fun k hk h=>by have:=hown1 k hk;omega
  have hown:∀ k,(Value.slice bs (bO l).length cs).ownBlock=some k->W0.heap.size<=k:=fun k hk=>by have:=hown1 k hk;omega
  obtain ⟨hx1,hx2,hx3,hx4⟩:=hval _ (aBz hk)
  obtain ⟨g,o,rfl,hg,hr⟩:=aD5 hRd (aBg (aDm _) hk)
  refine rg (sq (bB underlying67 sizeOf112 s7 s9 hk) (sq (bQ rfl (cQ aK.cells 2 aK.clen hr hg (aDt _ _) hk) rfl) (eA (cs:=[aV,aV]) zeroValue112 rfl fun w5 B5 k5 z5 =>?_)))
  have nB1_B5:=aC8 B1.lt
  have lkB5_w4:=aDl w4.heap.size
  have leB5_w4:=aDl w4.heap.size
  have B1:=B1.below k5
  have m6:KM (·=W0.heap.size) w4 w5:=aDr k5
  refine bR (vs:=aK.cells (bO l)[k]) B5 sizeOf112 rfl rfl rfl rfl fun w7 B5n O7 z7 =>?_
  replace B5:=B5n
  have B1:=B1.only O7 nB1_B5
  have m8:KM (·=W0.heap.size) w4 w7:=m6.only O7 (.inr lkB5_w4)
  have b9:=aS.toBelow O7 k5 k5.size leB5_w4
  refine nx (aO (rg (sq (gX s3) (sq (cZ rfl (B1.cell 1 rfl)) (sq (eZ rfl rfl) (aW (.bool (decide ((zl:Int)=(0:Int)))) rfl (nx ?_)))))))
  refine cd rfl (fun c10=>?_) (fun c10=>?_)
  ·
   refine eO (sq (bQ rfl B5.range rfl) (bR (vs:=aK.cells (bO l)[k]) B1 sizeOf112 s3 rfl rfl rfl fun w11 B1n O11 z11 =>?_))
   replace B1:=B1n
   have m12:KM (·=W0.heap.size) w4 w11:=m8.only O11 (.inl rfl)
   exact nl (pI (dO ⟨⟨S,R,m,((bO l)[k].at_),((bO l)[k].len),rfl,s8,s0,s3,s7,B1,⟨st _ _ _ _ _ hJ (m12.mono (fun i _ (h:i=W0.heap.size)=>(⟨by omega,by omega⟩:W0.heap.size<=i/\i<S))),hWS,hbS,aC7 hSW m12.size,hRd.km m12 hne,Zh hk (aBp c10) hdr,hmX,by omega,by omega,by omega,fun i hi=>⟨(hRb i hi).1,aBi (hRb i hi).2 m12.size⟩,hrS⟩⟩,s9⟩))
  ·
   refine rg (sq (gW s3) (sq (cZ rfl (B1.cell 0 rfl)) (sq (gX s3) (sq (cZ rfl (B1.cell 1 rfl)) (sq (iK rfl rfl (⟨by omega,by omega⟩)) (sq (gW rfl) (sq (cZ rfl (B5.cell 0 rfl)) (sq (eZ rfl rfl) (aW (.bool (decide (((za:Int)+(zl:Int):Int)=((bO l)[k].at_:Int)))) rfl (nx ?_))))))))))
   refine cd rfl (fun c13=>?_) (fun c13=>?_)
   ·
    refine eO (sq (gX s3) (sq (cZ rfl (B1.cell 1 rfl)) (sq (gX rfl) (sq (cZ rfl (B5.cell 1 rfl)) (sq (iK rfl rfl (⟨by omega,by have:=aBp c13;omega⟩)) (sq (gX s3) (eP B1 sizeOf2 rfl rfl rfl rfl fun w14 B1n O14 z14 =>?_)))))))
    replace B1:=B1n
    have m15:KM (·=W0.heap.size) w4 w14:=m8.only O14 (.inl rfl)
    exact nl (pI (dO ⟨⟨S,R,m,za,((zl:Int)+((bO l)[k].len:Int)),rfl,s8,s0,s3,s7,B1,⟨st _ _ _ _ _ hJ (m15.mono (fun i _ (h:i=W0.heap.size)=>(⟨by omega,by omega⟩:W0.heap.size<=i/\i<S))),hWS,hbS,aC7 hSW m15.size,hRd.km m15 hne,joinB hk (aBe c10) (aBp c13) hdr,hmX,by omega,by omega,by have:=aBp c13;omega,fun i hi=>⟨(hRb i hi).1,aBi (hRb i hi).2 m15.size⟩,hrS⟩⟩,s9⟩))
   ·
    refine aF (rg (bI s0 (sq (bQ s3 B1.range rfl) ?_)))
    obtain ⟨hm,hat,hdr2⟩:=DJ (Zf hk (aBe c10) (aBe c13) hdr)
    have hy:=rounds S R m _ hm (st _ _ _ _ _ hJ (m8.mono (fun i _ (h:i=W0.heap.size)=>(⟨by omega,by omega⟩:W0.heap.size<=i/\i<S)))) hWS (aC7 hSW m8.size) (fun i hi=>⟨(hRb i hi).1,aBi (hRb i hi).2 m8.size⟩)
    rw [hat] at hy
    refine cyB rfl (a1 rfl) hy (fun c w' h=>And.intro (rfl:(fr _ [] _).defers=[]) (Or.inr ⟨c,rfl,h⟩)) fun t16 w16 k16 jt16 jf16 =>?_
    have B1:=B1.km k16 (nR (hM2 _ (aDl _)) (Gu hRb hbS))
    have B5:=B5.km k16 (nR (hM2 _ (aC7 (aC7 hWS hSW) leB5_w4)) (Zz hRb leB5_w4))
    refine sq (cJ rfl) (nx ?_)
    refine cd rfl (fun c17=>?_) (fun c17=>?_)
    ·
     exact aE (uS rfl (Or.inl ⟨_,rfl,S,R,hWS,(aC7 (aC7 hSW m8.size) k16.size),Or.inr (jf16 (nt c17))⟩))
    ·
     refine aG (eO (sq (bQ rfl B5.range rfl) (bR (vs:=aK.cells (bO l)[k]) B1 sizeOf112 s3 rfl rfl rfl fun w18 B1n O18 z18 =>?_)))
     replace B1:=B1n
     have m19:KM (·=W0.heap.size) w16 w18:=(aD8 _ _).only O18 (.inl rfl)
     refine nl (pI ?_)
     obtain ⟨R2,hJ2,hRs⟩:=jt16 (tt c17)
     exact dO ⟨⟨S,R2,m+1,((bO l)[k].at_),((bO l)[k].len),rfl,s8,s0,s3,s7,B1,⟨st _ _ _ _ _ hJ2 (m19.mono (fun i _ (h:i=W0.heap.size)=>(⟨by omega,by omega⟩:W0.heap.size<=i/\i<S))),hWS,hbS,aC7 (aC7 (aC7 hSW m8.size) k16.size) m19.size,(Rd.km (hRd.below b9) k16 (fun b hb=>nR (hM2 _ (hown b hb)) (Gu hRb (hrS b hb)))).km m19 hne,hdr2,by omega,by omega,by omega,by omega,fun i hi=>(fun h=>⟨h.1,aBi h.2 m19.size⟩) (Bp hRb hRs m8.size (aC7 hSW m8.size) k16.size i hi),hrS⟩⟩,s9⟩
 ·
  rintro g20 w20 ⟨S,R,m,za,zl,s9,s8,s0,s3,s7,B1,⟨hJ,hWS,hbS,hSW,hRd,hdr,hmX,hn1,hn2,hn3,hRb,hrS⟩⟩
  refine rg (sq (gX s3) (sq (cZ rfl (B1.cell 1 rfl)) (sq (gH rfl rfl) (nx ?_))))
  refine cd rfl (fun c21=>?_) (fun c21=>?_)
  ·
   refine eO (bI s0 (sq (bQ s3 B1.range rfl) ?_))
   obtain ⟨hm,hat,hdr2⟩:=DJ (joinE (aBp c21) hdr)
   have hy:=rounds S R m _ hm hJ hWS hSW hRb
   rw [hat] at hy
   refine cyB rfl (a1 rfl) hy (fun c w' h=>And.intro (rfl:(fr _ [] _).defers=[]) (Or.inr ⟨c,rfl,h⟩)) fun t22 w22 k22 jt22 jf22 =>nl ?_
   have hend:(∃ R,J S R (dL ⟨0,0⟩ (bO l)).length w22)\/Jx S w22:=by
    cases t22 with
    | true=>have h:=jt22 rfl;obtain ⟨R2,h,_⟩:=h;rw [Qq hm hdr2] at h;exact Or.inl ⟨R2,h⟩
    | false=>exact Or.inr (jf22 rfl)
   rcases hend with ⟨R2,hend⟩ | hend
   ·exact fV (fn:=Tryz.f239) (R:=BE J Jx Pn W0.heap.size (dL ⟨0,0⟩ (bO l)).length) rfl (Or.inl ⟨_,rfl,S,R2,hWS,(aC7 hSW k22.size),Or.inl hend⟩)
   ·exact fV (fn:=Tryz.f239) (R:=BE J Jx Pn W0.heap.size (dL ⟨0,0⟩ (bO l)).length) rfl (Or.inl ⟨_,rfl,S,R,hWS,(aC7 hSW k22.size),Or.inr hend⟩)
  ·
   refine aG ?_
   have hmE:=joinN (aBe c21) hdr hmX
   rw [hmE] at hJ
   exact fV rfl (Or.inl ⟨_,rfl,S,R,hWS,hSW,Or.inl hJ⟩)
def bP (l:List aK):List aK:=if cU l=true then (dL ⟨0,0⟩ (bO l)) else []
theorem qE: ∀ (l:List aK) (z:aK),(dL z l).length<=l.length+1
 | [],z=>by unfold dL;split <;> simp
 | x::r,z=>by
  unfold dL
  split
  ·have:=qE r x;simp;omega
  ·split
   ·have:=qE r ⟨z.at_,z.len+x.len⟩;simp;omega
   ·have:=qE r x;simp;omega
theorem LJ {α β:Type} {f:α->List β} {l:List α} (hk:k<l.length):(l.take k).flatMap f++f l[k]=(l.take (k+1)).flatMap f:=by
 rw [aAr hk,aBb];simp
theorem Ib (b) (c) (l:List aK) (w):cT 218 [.slice b l.length c] w fun v W=>∃ bl,v=.func (.func 239) #[] #[pt bl 0]/\Bk bl [.slice b l.length c] 67 W/\w.heap.size<=bl:=by
 refine aJ (n:=4) func218 rfl ntmps218 (aA1 rfl) (rg (cO (cs:=[.slice b l.length c]) rfl rfl fun w1 B1 k1 z1 =>?_))
 have leB1:=aDl w.heap.size
 exact aW (.nilFunc) rfl (nx (rg (sq (Aa rfl) (aW (.func (.func 239) #[] #[pt w.heap.size (0)]) rfl (nx (aE (bT rfl k1 ⟨_,rfl,B1,leB1⟩)))))))
theorem Py (b) (c) (l:List aK) (w) (hv:Rd 2 w (.slice b l.length c) l.length c (l.flatMap aK.cells)) (hN:l.length<=1000000) (hval:∀ x∈bO l,Ur x):
  cT 172 [.slice b l.length c] w fun v W=>∃ b',v=.slice b' (dL ⟨0,0⟩ (bO l)).length (dL ⟨0,0⟩ (bO l)).length/\Rd 2 W (.slice b' (dL ⟨0,0⟩ (bO l)).length (dL ⟨0,0⟩ (bO l)).length) (dL ⟨0,0⟩ (bO l)).length (dL ⟨0,0⟩ (bO l)).length ((dL ⟨0,0⟩ (bO l)).flatMap aK.cells):=by
 refine qV (n:=18) func172 rfl ntmps172 (aA1 rfl) ?_
 refine jI (Ae (eO (bU (nl ?_))))
 refine jI (Ae (eO (eA (cs:=[cP]) zeroValue67 rfl fun w1 B1 k1 z1 =>?_)))
 have leB1:=aDl w.heap.size
 refine nl (jI ?_)
 refine jI (Ae (eO (aN (.slice b l.length c) rfl ?_)))
 have B1s:=B1
 refine cE Zs (a1 rfl) (Ib b c l _) ?_
 rintro v2 w2 k2 ⟨bl,rfl,hBl,lel⟩
 have b3:=aDu k1 k2
 have B1:=B1.below k2
 refine nl ?_
 have hbl0:w.heap.size<bl:=aBi B1s.lt lel
 have hnl:=B1.lt
 have hwn:=leB1
 have hwr:=b3.size
 have hXl:(dL ⟨0,0⟩ (bO l)).length<=1000001:=by have:=qE (bO l) ⟨0,0⟩;rw [tR] at this;omega
 refine wZ ?_
 refine tA (f0:=172) func172 rfl Zd (FY bl b c l _ hBl (hv.below b3) hN hval) (fun _=>rfl) (·=w.heap.size) (fun i hi h=>by omega) trivial (fun S R k W=>∃ v,R=(fun i=>v.ownBlock=some i)/\Bk w.heap.size [v] 67 W/\W.ownsRow S 112 2 v k (((dL ⟨0,0⟩ (bO l)).take k).flatMap aK.cells)/\Below w.heap.size w W) (fun _ _ _=>False) (fun _ _=>False) ?_ ?_ ?_ ?_ ?_ ?_ ?_
 ·rintro S R k A B ⟨v,h0,h1,h2,h3⟩ hk;exact ⟨v,h0,h1.km hk (fun h=>by omega),Ja h2 hk (fun i hi h=>by omega),hk.toBelow h3 h3.size (fun i hi=>by omega)⟩
 ·intro _ _ _ _ h _;exact h.elim
 ·intro A hA;exact ⟨_,by simp [Value.ownBlock],B1.below hA,fL _ _ _ _,aDu b3 hA⟩
 ·
  intro S R k A hk hJ hlA hS hSA hRb
  obtain ⟨vr,hR,hN9,hw,hbl⟩:=hJ
  have hN:=hN9
  have hlo:=fun i hi=>aM hw i hi
  have hlow:∀ i,Value.ownBlock vr=some i->w.heap.size<=i:=fun i hi=>by have:=hlo i hi;omega
  have hkmvr_A:∀ i,Value.ownBlock vr=some i->(fun i=>(·=w.heap.size) i\/R i) i\/A.heap.size<=i:=fun i hi=>.inl (.inr (by rw [hR];exact hi))
  have hnevr_hN:∀ i,Value.ownBlock vr=some i->i≠w.heap.size:=fun i hi=>by have:=hlo i hi;omega
  refine eO (eA (cs:=[aV,aV]) zeroValue112 rfl fun w4 B4 k4 z4 =>?_)
  have nhN_B4:=aC8 hN.lt
  have nOvr_B4:∀ i,Value.ownBlock vr=some i->i≠A.heap.size:=fun i hi=>aC8 (bA hw i hi)
  have lkB4_A:=aDl A.heap.size
  have leB4:=hbl.size
  have b5:=aDu hbl k4
  have hN:=hN.below k4
  have hw:=bE hw k4
  have m6:KM (fun i=>(·=w.heap.size) i\/R i) A w4:=aDr k4
  refine bR (vs:=aK.cells (dL ⟨0,0⟩ (bO l))[k]) B4 sizeOf112 rfl rfl rfl rfl fun w7 B4n O7 z7 =>?_
  replace B4:=B4n
  have b8:=aS.toBelow O7 b5 b5.size leB4
  have hN:=hN.only O7 nhN_B4
  have hw:=eF hw O7 nOvr_B4
  have m9:KM (fun i=>(·=w.heap.size) i\/R i) A w7:=m6.only O7 (.inr lkB4_A)
  refine nl ?_
  refine ⟨m9,?_⟩
  intro w10 O10
  have hN:=hN.only O10 (by omega)
  have B4:=B4.only O10 (Ne.symm (aC8 (aBi hlA lkB4_A)))
  have hw:=eF hw O10 (fun i hi=>by have:=hlo i hi;omega)
  have hkmvr_w10:∀ i,Value.ownBlock vr=some i->(fun i=>(·=w.heap.size) i\/R i) i\/w10.heap.size<=i:=fun i hi=>.inl (.inr (by rw [hR];exact hi))
  have b11:=aS.toBelow O10 b8 b8.size (by omega)
  refine aO (eO (sq (uF rfl (hN.cell 0 rfl)) (sq (bQ rfl B4.range rfl) (Cd (cs:=aK.cells (dL ⟨0,0⟩ (bO l))[k]) underlying67 sT rfl rfl rfl rfl fun w12 B12 k12 z12 =>?_))))
  have nhN_B12:=aC8 hN.lt
  have nB4_B12:=aC8 B4.lt
  have lkB12_w10:=aDl w10.heap.size
  have leB12:=b11.size
  have b13:=aDu b11 k12
  have hN:=hN.below k12
  have hw:=bE hw k12
  have m14:KM (fun i=>(·=w.heap.size) i\/R i) w10 w12:=aDr k12
  refine xZ (m:=1) (sz:=2) underlying67 sT rfl (aA1 rfl) rfl hw rfl (news:=aK.cells (dL ⟨0,0⟩ (bO l))[k]) rfl B12.range rfl (by simp only [maxLen];omega) (by omega) (by have:=O10.size;have:=m14.size;omega) fun v15 w15 hw15 k15 ha15 =>?_
  have nOv15_hN:∀ i,Value.ownBlock v15=some i->i≠w.heap.size:=NN ha15 hnevr_hN hN.lt
  have hN:=hN.km k15 (fun e=>hnevr_hN _ e rfl)
  have og17:=Ok ha15 hkmvr_w10 m14.size
  have m16:KM (fun i=>(·=w.heap.size) i\/R i) w10 w15:=KM.own m14 k15 hkmvr_w10
  have b18:=aDs k15 b13 b13.size (fun i hi=>hlow i hi)
  refine eP hN sizeOf67 rfl rfl (AK hw15) rfl fun w20 hNn O20 z20 =>?_
  replace hN:=hNn
  have b21:=aS.toBelow O20 b18 b18.size leB1
  have hw15:=eF hw15 O20 nOv15_hN
  have m22:KM (fun i=>(·=w.heap.size) i\/R i) w10 w20:=m16.only O20 (.inl (.inl rfl))
  refine nl ?_
  rw [LJ hk] at hw15
  have hgr:∀ i,Value.ownBlock v15=some i->R i\/A.heap.size<=i/\i<w20.heap.size:=fun i hi=>by
   rcases og17 i hi with (h | h) | h
   ·have:=aM hw15 i hi;have h:i=w.heap.size:=h;omega
   ·exact .inl h
   ·have:=O10.size;exact .inr ⟨by omega,bA hw15 i hi⟩
  exact ⟨⟨fun i=>Value.ownBlock v15=some i,⟨v15,rfl,hN,hw15,b21⟩,hgr⟩,m22⟩
 ·intro _ _ h;exact h.elim
 ·
  intro S R w23 hJ hS hSB hD
  obtain ⟨vr,hR,hN9,hw,hbl⟩:=hJ
  rw [aCb] at hw
  obtain ⟨b',c',rfl,hrd⟩:=eG hw
  refine Ae (rg (sq (uF rfl (hN9.cell 0 rfl)) (sq (uF rfl (hN9.cell 0 rfl)) (sq (aY underlying67 rfl) (sq (uF rfl (hN9.cell 0 rfl)) (sq (aY underlying67 rfl) (sq (WC underlying67 sizeOf112 rfl rfl rfl (⟨aDl _,hrd.2.1⟩)) (aW (.slice b' ((dL ⟨0,0⟩ (bO l)).length) ((dL ⟨0,0⟩ (bO l)).length)) rfl (nx (aE ?_))))))))))
  refine wK hD fun w9 O9=>⟨_,res1 rfl,_,rfl,aS.toBelow O9 hbl hbl.size (by have:=hbl.size;omega),?_⟩
  exact ⟨_,rfl,(hrd.only O9 (fun e=>by have:=aM hw _ e;omega)).cut⟩
 ·intro _ _ _ h;exact h.elim
theorem JL {n:Int} {b:Bool} (h0:n≠0) (h:(!decide ((cA n b:Int)=(0:Int)))=true):b=false:=by
 cases b with
 | false=>rfl
 | true=>simp [cA] at h
theorem nM {n:Int} {b:Bool} (h0:n≠0) (h:(!decide ((cA n b:Int)=(0:Int)))=false):b=true:=by
 cases b with
 | true=>rfl
 | false=>simp [cA,h0] at h
theorem PC {l:List aK} (h:cU l=false):bP l=[]:=by unfold bP;rw [h];rfl
theorem Mt {l:List aK} (h:cU l=true):bP l=dL ⟨0,0⟩ (bO l):=by unfold bP;rw [aEc h]
def xD (x:aK):Prop:=0<=x.at_/\0<=x.len/\x.at_+x.len<=1099511627776
theorem wX: ∀ (l:List aK) (z:aK),xD z->(∀ x∈l,Ur x)->∀ x∈dL z l,xD x
 | [],z,hz,_,x,hx=>by
  unfold dL at hx
  split at hx
  ·rw [aBj.1 hx];exact hz
  ·cases hx
 | y::r,z,hz,hl,x,hx=>by
  obtain ⟨h1,h2,h3⟩:=hz
  obtain ⟨k1,k2,k3,k4⟩:=hl y (aBm ..)
  have hr:∀ x∈r,Ur x:=fun x h=>hl x (aA9 _ h)
  unfold dL at hx
  split at hx
  ·exact wX r y ⟨k1,by omega,by omega⟩ hr x hx
  ·split at hx
   ·exact wX r ⟨z.at_,z.len+y.len⟩ ⟨h1,by show 0<=z.len+y.len;omega,by show z.at_+(z.len+y.len)<=_;omega⟩ hr x hx
   ·rcases aC0.1 hx with rfl | hx
    ·exact ⟨h1,h2,h3⟩
    ·exact wX r y ⟨k1,by omega,by omega⟩ hr x hx
theorem sX {l:List aK}:∀ x∈bP l,xD x:=by
 unfold bP
 split
 ·rename_i h;exact wX _ _ ⟨by decide,by decide,by decide⟩ (oY h)
 ·intro x hx;cases hx
def jK (l:List aK):Int:=(l.map (·.len)).sum
theorem mB (x) (r:List aK):jK (x::r)=x.len+jK r:=by simp [jK]
theorem Hc: jK []=0:=rfl
theorem tF: ∀ (l:List aK) (z:aK),0<=z.len->(∀ x∈l,Ur x)->jK (dL z l)=z.len+jK l
 | [],z,hz,_=>by
  unfold dL
  split
  ·simp [jK]
  ·simp [jK];omega
 | y::r,z,hz,hl=>by
  obtain ⟨k1,k2,k3,k4⟩:=hl y (aBm ..)
  have hr:∀ x∈r,Ur x:=fun x h=>hl x (aA9 _ h)
  unfold dL
  split
  ·rw [tF r y (by omega) hr,mB];omega
  ·split
   ·rw [tF r ⟨z.at_,z.len+y.len⟩ (by show 0<=z.len+y.len;omega) hr,mB];show z.len+y.len+jK r=_;omega
   ·rw [mB,tF r y (by omega) hr,mB]
theorem Gx: ∀ (l:List aK) (z:Int),0<=z->z<=1099511627776->rV z l=true->jK l<=1099511627776 - z
 | [],z,h0,h1,_=>by rw [Hc];omega
 | y::r,z,h0,h1,h=>by
  simp only [rV,aB0,aBt] at h
  have hy:=Fw h.1
  have:=Gx r _ (by omega) (by omega) h.2
  rw [mB];omega
theorem DT (l:List aK):jK (bP l)<=1099511627776:=by
 unfold bP
 split
 ·rename_i h
  rw [tF _ _ (by decide) (oY h)]
  unfold cU at h
  have:=Gx (bO l) 0 (by decide) (by decide) (Bool.and_eq_true_iff.1 h).2
  show 0+_<=_;omega
 ·decide
theorem xT: ∀ {l:List aK},(∀ x∈l,xD x)->0<=jK l
 | [],_=>by decide
 | y::r,h=>by
  have:=xT (l:=r) fun x hx=>h x (aA9 _ hx)
  have:=(h y (aBm ..)).2.1
  rw [mB];omega
theorem Hm (a b:List aK):jK (a++b)=jK a+jK b:=by simp [jK]
theorem UO {l:List aK} (hk:k<l.length):jK (l.take (k+1))=jK (l.take k)+l[k].len:=by
 rw [aAr hk,Hm,mB,Hc];omega
theorem Nb {l:List aK} (h:∀ x∈l,xD x) (k):0<=jK (l.take k)/\jK (l.take k)<=jK l:=by
 have h1:=xT (l:=l.take k) fun x hx=>h x (aA8 hx)
 have h2:=xT (l:=l.drop k) fun x hx=>h x (List.mem_of_mem_drop hx)
 have h3:=Hm (l.take k) (l.drop k)
 rw [aA2] at h3
 omega
theorem tO (l:List aK) (hN:l.length<=1000000):(bP l).length<=1000001:=by
 unfold bP
 split
 ·have:=qE (bO l) ⟨0,0⟩;rw [tR] at this;omega
 ·simp
theorem eJ (h:Rd sz w v n c xs):∃ b,v=.slice b n c/\Rd sz w (.slice b n c) n c xs:=by
 have h3:=h
 obtain ⟨_,_,_,⟨e,e2,e3⟩ | ⟨g,o,e,_⟩⟩:=h3
 ·exact ⟨none,by rw [e,e2,e3],by subst e2 e3;rw [<- e];exact h⟩
 ·exact ⟨some ⟨g,o,none⟩,e,e ▸ h⟩
theorem yE (b) (c) (l:List aK) (w) (hN:l.length<=1000000) (hv:Rd 2 w (.slice b l.length c) l.length c (l.flatMap aK.cells)) (hf:∀ x∈l,x.Fit):cT 117 [.slice b l.length c] w fun v W=>Rd 2 W v (bP l).length (bP l).length ((bP l).flatMap aK.cells):=by
 refine aJ (n:=8) func117 rfl ntmps117 (aA1 rfl) (rg (bU (nx (aF (rg ?_)))))
 refine aN (.slice b l.length c) rfl (cE QJ (a1 rfl) (Ad b c l _ hN (hv.below (aDt _ _)) hf) ?_)
 rintro _ w1 k1 rfl
 refine sq (gC rfl rfl) (nx ?_)
 refine cd rfl (fun c2=>?_) (fun c2=>?_)
 ·
  refine rg (bU (nx (aE ?_)))
  exact bT (R:=fun v W=>Rd 2 W v (bP l).length (bP l).length ((bP l).flatMap aK.cells)) rfl k1 (by rw [PC (JL (by decide) c2)];exact aEe 2 _)
 ·
  refine aG (rg (aN (.slice b l.length c) rfl (cE Zc (a1 rfl) (Py b c l _ (hv.below k1) hN (oY (nM (by decide) c2))) ?_)))
  rintro v3 w3 k3 ⟨b',rfl,hrd⟩
  have b4:=aDu k1 k3
  refine aW (.slice b' (dL ⟨0,0⟩ (bO l)).length (dL ⟨0,0⟩ (bO l)).length) rfl (nx (aE ?_))
  exact bT (R:=fun v W=>Rd 2 W v (bP l).length (bP l).length ((bP l).flatMap aK.cells)) rfl b4 (by rw [Mt (nM (by decide) c2)];exact hrd)
theorem MN (b) (c) (l:List aK) (w) (hN:l.length<=1000000) (hv:Rd 2 w (.slice b l.length c) l.length c (l.flatMap aK.cells)) (hf:∀ x∈l,x.Fit):cT 118 [.slice b l.length c] w fun v _=>v=zi (jK (bP l)):=by
 refine aJ (n:=19) func118 rfl ntmps118 (aA1 rfl) (rg (bU (nx (rg (bU (nx (aF (rg (aN (.slice b l.length c) rfl (cE KY (a1 rfl) (yE b c l _ hN (hv.below (aDt _ _)) hf) ?_))))))))))
 rintro v1 w1 k1 hrd0
 obtain ⟨br,rfl,hrd⟩:=eJ hrd0
 refine sq (aY underlying67 rfl) (rU (nx ?_))
 refine bD (fun k g W=>g 9=zi ((k:Nat):Int)/\g 8=zi ((((bP l).length:Nat)):Int)/\g 2=zi (0)/\g 3=zi (jK ((bP l).take k))/\g 7=.slice br ((bP l).length) ((bP l).length)/\Below w1.heap.size w1 W/\Below w.heap.size w W/\True) ((bP l).length) (by have:=tO l hN;omega) (fun _ _ _ h=>⟨h.1,h.2.1⟩) ⟨rfl,rfl,rfl,rfl,rfl,aDt _ _,k1,trivial⟩ rfl rfl (fun _ _ _ _ h=>h) ?_ ?_
 ·
  rintro k g2 w2 hk ⟨s9,s8,s2,s3,s7,b2_w1,b2,hP⟩
  obtain ⟨g,o,rfl,hg,hr⟩:=aD5 hrd (aBg (aDm _) hk)
  have hsk:=Nb (sX (l:=l)) k
  have hs0:=DT l
  obtain ⟨ho1,ho2,ho3⟩:=sX _ (aBz hk)
  refine rg (sq (bB underlying67 sizeOf112 s7 s9 hk) (sq (bQ rfl (cQ aK.cells 2 aK.clen hr hg b2_w1 hk) rfl) (eA (cs:=[aV,aV]) zeroValue112 rfl fun w3 B3 k3 z3 =>?_)))
  have leB3:=b2.size
  have leB3_w1:=b2_w1.size
  have b4:=aDu b2 k3
  have b5:=aDu b2_w1 k3
  refine bR (vs:=aK.cells (bP l)[k]) B3 sizeOf112 rfl rfl rfl rfl fun w6 B3n O6 z6 =>?_
  replace B3:=B3n
  have b7:=aS.toBelow O6 b4 b4.size leB3
  have b8:=aS.toBelow O6 b5 b5.size leB3_w1
  exact nx (eO (bI s3 (sq (gX rfl) (sq (cZ rfl (B3.cell 1 rfl)) (sq (iK rfl rfl (⟨by omega,by omega⟩)) (aW (zi ((jK ((bP l).take k):Int)+((bP l)[k].len:Int))) rfl (nl (dO ⟨⟨rfl,s8,s2,(aD7 (Value.int .i64) (UO hk).symm),s7,b8,b7,trivial⟩,s9⟩))))))))
 ·
  rintro g9 w9 ⟨s9,s8,s2,s3,s7,b9_w1,b9,hP⟩
  refine rg (bI s3 (aW (zi (jK ((bP l).take (bP l).length))) rfl (nx (aE ?_))))
  refine bT (R:=fun v _=>v=zi (jK (bP l))) rfl b9 (aD6 (b:=(zi (jK ((bP l).take (bP l).length)):Value)) rfl ?_)
  rw [aCb]
theorem IP: prog.eqGuardType prog.depth 112=false:=by kernel_rfl
theorem LM: prog.stoodInHeld 112=false:=by kernel_rfl
theorem Nl: prog.underlying 112=some (.struct (prog.fieldsOf 112)):=by kernel_rfl
theorem QG (a b:aK) (w:World):(Op.equal 112 (.agg a.cells.toArray) (.agg b.cells.toArray)).run prog w=.ok (decide (a=b)) w:=by
 have h:(Op.equal 112 (.agg a.cells.toArray) (.agg b.cells.toArray)).run prog w=(Op.equalIn Op.maxDepth 112 (.agg a.cells.toArray) (.agg b.cells.toArray)).run prog w:=rfl
 rw [h,show Op.maxDepth=(Op.maxDepth - 1)+1 from rfl,run_equalIn_struct _ _ _ _ _ Nl LM]
 unfold Program.fieldsOf
 rw [underlying112]
 obtain ⟨a1,a2⟩:=a
 obtain ⟨b1,b2⟩:=b
 have h2:∀ (d:Nat) (p q:Int) (w:World),(Op.equalIn (d+1) 2 (zi p) (zi q)).run prog w=.ok (p == q) w:=fun d p q w=>run_equalIn_int w d 2 .i64 .i64 p q underlying2
 rw [show Op.maxDepth - 1=(Op.maxDepth - 2)+1 from rfl]
 simp [Op.eqFields, part, aK.cells, h2, go_sem]
 by_cases h1:a1=b1 <;> by_cases h3:a2=b2 <;> simp [h1,h3]
section
variable {n:Nat} {g:Nat->Value} {w:World} {dd:Option Tmp} {ty t':TypeId} {pos:String} {aft:Array Edge} {gd:Option (Nat × Bool)} {x y:Operand}
theorem r_xne {a b:aK} (hx:ev n g x=.agg a.cells.toArray) (hy:ev n g y=.agg b.cells.toArray):aL n g ⟨dd,.binOp .neq 112 x y t',ty,pos,aft,gd⟩ w (.bool (!decide (a=b))):=by
 unfold aL execOp
 simp [hx, hy, eqGuard, IP, binOp, QG, go_sem]
end
theorem SB {l1 l2:List aK} (h:(!decide (((l1.length:Nat):Int)=((l2.length:Nat):Int)))=true):decide (l1=l2)=false:=by
 apply decide_eq_false
 rintro rfl
 simp at h
theorem XK {l1 l2:List aK} {k:Nat} (hk:k<l1.length) (hk2:k<l2.length) (h:(!decide (l1[k]=l2[k]))=true):decide (l1=l2)=false:=by
 apply decide_eq_false
 rintro rfl
 simp at h
theorem Ya {l1 l2:List aK} (hk:k<l1.length) (hk2:k<l2.length) (hP:l1.take k=l2.take k) (h:(!decide (l1[k]=l2[k]))=false):l1.take (k+1)=l2.take (k+1):=by
 rw [aAr hk,aAr hk2,hP]
 simp at h;rw [h]
theorem SO {l1 l2:List aK} (hl:l1.length=l2.length) (hP:l1.take l1.length=l2.take l1.length):decide (l1=l2)=true:=by
 apply decide_eq_true
 rw [aCb,hl,aCb] at hP
 exact hP
theorem WK (v1 v2) (ca cb) (l1 l2:List aK) (w) (hN:l1.length<=2000000) (h1:Rd 2 w v1 l1.length ca (l1.flatMap aK.cells)) (h2:Rd 2 w v2 l2.length cb (l2.flatMap aK.cells)):cT 116 [v1,v2] w fun v _=>v=.bool (decide (l1=l2)):=by
 obtain ⟨b1,rfl,h1⟩:=eJ h1
 obtain ⟨b2,rfl,h2⟩:=eJ h2
 refine aJ (n:=26) func116 rfl ntmps116 (aA1 rfl) (rg (bU (nx (aF (rg (aN (.slice b1 l1.length ca) rfl (sq (aY underlying67 rfl) (aN (.slice b2 l2.length cb) rfl (sq (aY underlying67 rfl) (sq (gC rfl rfl) (nx ?_)))))))))))
 refine cd rfl (fun c1=>?_) (fun c1=>?_)
 ·
  refine rg (bU (nx (aE ?_)))
  exact bT (R:=fun v _=>v=.bool (decide (l1=l2))) rfl (aDt _ _) (aD6 (b:=(.bool false:Value)) rfl (aD7 Value.bool (SB c1).symm))
 ·
  refine aG (aF (rg (aN (.slice b1 l1.length ca) rfl (sq (aY underlying67 rfl) (rU (nx ?_))))))
  have hlen:l1.length=l2.length:=by have:=c1;simp at this;omega
  refine bD (fun k g W=>g 13=zi ((k:Nat):Int)/\g 12=zi (((l1.length:Nat)):Int)/\g 0=.slice b1 l1.length ca/\g 1=.slice b2 l2.length cb/\g 4=.bool false/\Below w.heap.size w W/\(l1.take k=l2.take k)) l1.length (by omega) (fun _ _ _ h=>⟨h.1,h.2.1⟩) ⟨rfl,rfl,rfl,rfl,rfl,aDt _ _,rfl⟩ rfl rfl (fun _ _ _ _ h=>h) ?_ ?_
  ·
   rintro k g2 w2 hk ⟨s13,s12,s0,s1,s4,b2,hP⟩
   obtain ⟨ga,oa,rfl,hga,hra⟩:=aD5 h1 (aBg (aDm _) hk)
   have hk2:k<l2.length:=by omega
   obtain ⟨gb,ob,rfl,hgb,hrb⟩:=aD5 h2 (aBg (aDm _) hk2)
   refine rg (bI s13 (aW (zi (k:Nat)) rfl (nx ?_)))
   refine sD (_::_::_::_::_::_::_::_::_::[]) [(8,24)] [0,1,4,12,13] rfl ⟨aA,aA,aA,aA,aA,aA,aA,aA,aA,trivial⟩ (by kernel_rfl) rfl rfl (fun S=>⟨
    bF S rfl s0,
    bF S rfl rfl,
    aP [0,1] S rfl fun h=>bB underlying67 sizeOf112 h.1 h.2.1 hk,
    fY [2] S rfl fun hT h=>bQ h.1 (cQ aK.cells 2 aK.clen hra hga (aDu b2 hT) hk) rfl,
    bF S rfl s1,
    bF S rfl rfl,
    aP [4,5] S rfl fun h=>bB underlying67 sizeOf112 h.1 h.2.1 hk2,
    fY [6] S rfl fun hT h=>bQ h.1 (cQ aK.cells 2 aK.clen hrb hgb (aDu b2 hT) hk2) rfl,
    aP [3,7] S rfl fun h=>r_xne h.1 h.2.1,
    trivial⟩) ?_
   rintro g3 w3 k3 ⟨s24,-⟩ ⟨o0,o1,o4,o12,o13,-⟩
   have s0:=o0.trans s0
   have s1:=o1.trans s1
   have s4:=o4.trans s4
   have s12:=o12.trans s12
   have s13:=o13.trans s13
   have b4:=aDu b2 k3
   refine cd s24 (fun c5=>?_) (fun c5=>?_)
   ·
    refine rg (bU (nx (aE ?_)))
    exact bT (R:=fun v _=>v=.bool (decide (l1=l2))) rfl b4 (aD6 (b:=(.bool false:Value)) rfl (aD7 Value.bool (XK hk hk2 c5).symm))
   ·
    exact aG (dO ⟨⟨rfl,s12,s0,s1,s4,b4,Ya hk hk2 hP c5⟩,s13⟩)
  ·
   rintro g6 w6 ⟨s13,s12,s0,s1,s4,b6,hP⟩
   refine rg (bU (nx (aE ?_)))
   exact bT (R:=fun v _=>v=.bool (decide (l1=l2))) rfl b6 (aD6 (b:=(.bool true:Value)) rfl (aD7 Value.bool (SO hlen hP).symm))
def KR (x y:aK):Bool:=decide ((if (y.at_:Int)>(x.at_:Int) then (y.at_:Int) else (x.at_:Int):Int)<(if ((y.at_:Int)+(y.len:Int):Int)<((x.at_:Int)+(x.len:Int):Int) then ((y.at_:Int)+(y.len:Int):Int) else ((x.at_:Int)+(x.len:Int):Int):Int))
def yU (l1 l2:List aK):Bool:=(bP l1).any fun x=>(bP l2).any (KR x)
theorem Rw {l1 l2:List aK} {k j:Nat} (hk:k<(bP l1).length) (hj:j<(bP l2).length) (h:KR (bP l1)[k] (bP l2)[j]=true):yU l1 l2=true:=by
 unfold yU
 exact aCc.2 ⟨_,aBz hk,aCc.2 ⟨_,aBz hj,h⟩⟩
theorem Rn (b1 b2) (ca cb) (l1 l2:List aK) (w) (hN1:l1.length<=1000000) (hv1:Rd 2 w (.slice b1 l1.length ca) l1.length ca (l1.flatMap aK.cells)) (hf1:∀ x∈l1,x.Fit) (hN2:l2.length<=1000000) (hv2:Rd 2 w (.slice b2 l2.length cb) l2.length cb (l2.flatMap aK.cells)) (hf2:∀ x∈l2,x.Fit):cT 164 [.slice b1 l1.length ca,.slice b2 l2.length cb] w fun v _=>v=.bool (yU l1 l2):=by
 refine aJ (n:=46) func164 rfl ntmps164 (aA1 rfl) (rg (bU (nx (rg (aN (.slice b1 l1.length ca) rfl (cE KY (a1 rfl) (yE b1 ca l1 _ hN1 (hv1.below (aDt _ _)) hf1) ?_))))))
 rintro v1 w1 k1 hrd10
 obtain ⟨br1,rfl,hrd1⟩:=eJ hrd10
 refine aN (.slice b2 l2.length cb) rfl (cE KY (a1 rfl) (yE b2 cb l2 _ hN2 (hv2.below k1) hf2) ?_)
 rintro v2 w2 k2 hrd20
 have b3:=aDu k1 k2
 obtain ⟨br2,rfl,hrd2⟩:=eJ hrd20
 refine aW (.slice br1 ((bP l1).length) ((bP l1).length)) rfl (aW (.slice br2 ((bP l2).length) ((bP l2).length)) rfl (nx (aF (rg (aN (.slice br1 ((bP l1).length) ((bP l1).length)) rfl (sq (aY underlying67 rfl) (rU (nx ?_))))))))
 have hrd1:=hrd1.below k2
 refine bD (fun k g W=>g 17=zi ((k:Nat):Int)/\g 16=zi ((((bP l1).length:Nat)):Int)/\g 4=.bool false/\g 6=.slice br2 ((bP l2).length) ((bP l2).length)/\g 15=.slice br1 ((bP l1).length) ((bP l1).length)/\Below w2.heap.size w2 W/\Below w.heap.size w W/\(((bP l1).take k).any (fun x=>(bP l2).any (KR x))=false)) ((bP l1).length) (by have:=tO l1 hN1;omega) (fun _ _ _ h=>⟨h.1,h.2.1⟩) ⟨rfl,rfl,rfl,rfl,rfl,aDt _ _,b3,rfl⟩ rfl rfl (fun _ _ _ _ h=>h) ?_ ?_
 ·
  rintro k g4 w4 hk ⟨s17,s16,s4,s6,s15,b4_w2,b4,hP⟩
  obtain ⟨ga,oa,rfl,hga,hra⟩:=aD5 hrd1 (aBg (aDm _) hk)
  obtain ⟨ho1,ho2,ho3⟩:=sX _ (aBz hk)
  refine rg (sq (bB underlying67 sizeOf112 s15 s17 hk) (sq (bQ rfl (cQ aK.cells 2 aK.clen hra hga b4_w2 hk) rfl) (eA (cs:=[aV,aV]) zeroValue112 rfl fun w5 B5 k5 z5 =>?_)))
  have leB5:=b4.size
  have leB5_w2:=b4_w2.size
  have b6:=aDu b4 k5
  have b7:=aDu b4_w2 k5
  refine bR (vs:=aK.cells (bP l1)[k]) B5 sizeOf112 rfl rfl rfl rfl fun w8 B5n O8 z8 =>?_
  replace B5:=B5n
  have b9:=aS.toBelow O8 b6 b6.size leB5
  have b10:=aS.toBelow O8 b7 b7.size leB5_w2
  refine nx (rg (bI s6 (sq (aY underlying67 rfl) (rU (nx ?_)))))
  refine bD (fun j g W=>g 23=zi ((j:Nat):Int)/\g 22=zi ((((bP l2).length:Nat)):Int)/\g 4=.bool false/\g 6=.slice br2 ((bP l2).length) ((bP l2).length)/\g 8=pt w4.heap.size (0)/\g 15=.slice (some ⟨ga,oa,none⟩) ((bP l1).length) ((bP l1).length)/\g 16=zi ((bP l1).length:Nat)/\g 17=zi (k:Nat)/\g 21=.slice br2 ((bP l2).length) ((bP l2).length)/\Bk w4.heap.size (aK.cells (bP l1)[k]) 112 W/\Below w2.heap.size w2 W/\Below w8.heap.size w8 W/\Below w.heap.size w W/\(((bP l2).take j).any (KR (bP l1)[k])=false)) ((bP l2).length) (by have:=tO l2 hN2;omega) (fun _ _ _ h=>⟨h.1,h.2.1⟩) ⟨rfl,rfl,s4,s6,rfl,s15,s16,s17,rfl,B5,b10,aDt _ _,b9,rfl⟩ rfl rfl (fun _ _ _ _ h=>h) ?_ ?_
  ·
   rintro j g11 w11 hj ⟨s23,s22,s4,s6,s8,s15,s16,s17,s21,B5,b11_w2,b11_w8,b11,hQ⟩
   obtain ⟨gb,ob,rfl,hgb,hrb⟩:=aD5 hrd2 (aBg (aDm _) hj)
   obtain ⟨hp1,hp2,hp3⟩:=sX _ (aBz hj)
   refine rg (sq (bB underlying67 sizeOf112 s21 s23 hj) (sq (bQ rfl (cQ aK.cells 2 aK.clen hrb hgb b11_w2 hj) rfl) (eA (cs:=[aV,aV]) zeroValue112 rfl fun w12 B12 k12 z12 =>?_)))
   have nB5_B12:=aC8 B5.lt
   have leB12:=b11.size
   have leB12_w2:=b11_w2.size
   have leB12_w8:=b11_w8.size
   have b13:=aDu b11 k12
   have B5:=B5.below k12
   have b14:=aDu b11_w2 k12
   have b15:=aDu b11_w8 k12
   refine bR (vs:=aK.cells (bP l2)[j]) B12 sizeOf112 rfl rfl rfl rfl fun w16 B12n O16 z16 =>?_
   replace B12:=B12n
   have b17:=aS.toBelow O16 b13 b13.size leB12
   have B5:=B5.only O16 nB5_B12
   have b18:=aS.toBelow O16 b14 b14.size leB12_w2
   have b19:=aS.toBelow O16 b15 b15.size leB12_w8
   refine nx (rg (sq (gW s8) (sq (cZ rfl (B5.cell 0 rfl)) (sq (gW rfl) (sq (cZ rfl (B12.cell 0 rfl)) (sq (r_max rfl rfl) (sq (gW s8) (sq (cZ rfl (B5.cell 0 rfl)) (sq (gX s8) (sq (cZ rfl (B5.cell 1 rfl)) (sq (iK rfl rfl (⟨by omega,by omega⟩)) (sq (gW rfl) ?_))))))))))))
   refine sq (cZ rfl (B12.cell 0 rfl)) (sq (gX rfl) (sq (cZ rfl (B12.cell 1 rfl)) (sq (iK rfl rfl (⟨by omega,by omega⟩)) (sq (r_min rfl rfl) (sq (eT rfl rfl) (nx ?_))))))
   refine cd rfl (fun c20=>?_) (fun c20=>?_)
   ·
    refine rg (bU (nx (aE ?_)))
    exact bT (R:=fun v _=>v=.bool (yU l1 l2)) rfl b17 (aD6 (b:=(.bool true:Value)) rfl (aD7 Value.bool (Rw hk hj c20).symm))
   ·
    exact aG (dO ⟨⟨rfl,s22,s4,s6,s8,s15,s16,s17,s21,B5,b18,b19,b17,rH hj hQ c20⟩,s23⟩)
  ·
   rintro g21 w21 ⟨s23,s22,s4,s6,s8,s15,s16,s17,s21,B5,b21_w2,b21_w8,b21,hQ⟩
   exact dO ⟨⟨rfl,s16,s4,s6,s15,b21_w2,b21,rH hk hP (by rw [aCb] at hQ;exact hQ)⟩,s17⟩
 ·
  rintro g22 w22 ⟨s17,s16,s4,s6,s15,b22_w2,b22,hP⟩
  refine rg (bU (nx (aE ?_)))
  exact bT (R:=fun v _=>v=.bool (yU l1 l2)) rfl b22 (aD6 (b:=(.bool false:Value)) rfl (aD7 Value.bool (show false=yU l1 l2 from (by unfold yU;rw [aCb] at hP;exact hP.symm))))
theorem mH {n:Int}:bC n=true↔0<=n/\n<=1099511627776:=by
 unfold bC;simp
theorem XW {x:aK} (h:Ur x):xD x:=by obtain ⟨a,b,c,d⟩:=h;exact ⟨a,by omega,by omega⟩
theorem En {l:List aK} (h:cU l=true):∀ x∈l,xD x:=fun x hx=>XW (oY h x ((mD l).mem_iff.2 hx))
def yK (gr sz:Int) (x:aK):Bool:=((!decide (((x.at_:Int).tmod (gr:Int):Int)=(0:Int)))||(!decide (((x.len:Int).tmod (gr:Int):Int)=(0:Int))))||(decide ((sz:Int)<((x.at_:Int)+(x.len:Int):Int)))
theorem Mb (gr sz:Int) (x) (w) (bg bz) (hG:Bk bg [zi gr] 2 w) (hZ:Bk bz [zi sz] 2 w) (hgr:1<=gr) (hx:xD x):cT 171 [.agg (aK.cells x).toArray,pt bg 0,pt bz 0] w fun v _=>v=.bool (yK gr sz x):=by
 refine aJ (n:=26) func171 rfl ntmps171 (aA1 rfl) (rg (cO (cs:=aK.cells x) rfl rfl fun w1 B1 k1 z1 =>?_))
 have nhG_B1:=aC8 hG.lt
 have nhZ_B1:=aC8 hZ.lt
 have leB1:=aDl w.heap.size
 have hG:=hG.below k1
 have hZ:=hZ.below k1
 refine bU (nx ?_)
 refine sQ (_::_::_::_::_::_::_::_::_::_::_::_::_::_::_::_::_::_::_::_::_::_::[]) [(21,4)] [] rfl ⟨aA,aA,aA,aA,aA,aA,aD aA,aD aA,aD aA,aD aA,aD aA,aA,aA,aD aA,aD aA,aD aA,aD aA,aD aA,aD aA,aD aA,aA,aA,trivial⟩ (by kernel_rfl) rfl rfl rfl (fun S=>⟨
  jA 3 S rfl fun q=>gW q,
  fY [0] S rfl fun hT h=>cZ h.1 ((B1.below hT).cell 0 rfl),
  iG 1 S rfl fun hT q=>cZ q ((hG.below hT).cell 0 rfl),
  aP [1,2] S rfl fun h=>Gn h.1 h.2.1 (by have:=hx.1;have:=hx.2.1;omega) (by omega),
  aP [3] S rfl fun h=>gC h.1 rfl,
  oW [(4,9)] [] S rfl fun _ _ _ h _=>dv aT h.1,
  fW 3 S rfl fun e q=>gX q,
  cK [6] S rfl fun e hT h=>cZ (h.1.1 e) ((B1.below hT).cell 1 rfl),
  oF [] [1] S rfl i2 gU fun e _ _ hT _ q=>dv (cZ q.1 ((hG.below hT).cell 0 rfl)) (mY e rfl),
  cK [7,8] S rfl fun e _ h=>Gn (h.1.1 e) (h.2.1.1 e) (by have:=hx.1;have:=hx.2.1;omega) (by omega),
  cK [9] S rfl fun e _ h=>gC (h.1.1 e) rfl,
  aP [5,10] S rfl fun h=>dA h.1 (fun c=>h.2.1.1 (tn c)),
  oW [(11,16)] [] S rfl fun _ _ _ h _=>dv aT h.1,
  fW 3 S rfl fun e q=>gW q,
  cK [13] S rfl fun e hT h=>cZ (h.1.1 e) ((B1.below hT).cell 0 rfl),
  fW 3 S rfl fun e q=>gX q,
  cK [15] S rfl fun e hT h=>cZ (h.1.1 e) ((B1.below hT).cell 1 rfl),
  cK [14,16] S rfl fun e _ h=>iK (h.1.1 e) (h.2.1.1 e) (⟨by have:=hx.1;have:=hx.2.1;omega,by have:=hx.2.2;omega⟩),
  oF [] [2] S rfl i2 gU fun e _ _ hT _ q=>dv (cZ q.1 ((hZ.below hT).cell 0 rfl)) (mY e rfl),
  cK [17,18] S rfl fun e _ h=>gH (h.1.1 e) (h.2.1.1 e),
  aP [12,19] S rfl fun h=>dA h.1 (fun c=>h.2.1.1 (tn c)),
  oW [(20,25)] [] S rfl fun _ _ _ h _=>dv kC h.1,
  trivial⟩) ?_
 rintro g2 w2 k2 ⟨s4,-⟩ -
 have b3:=aDu k1 k2
 exact aE (bT rfl b3 s4)
def qW (sz gr:Int) (l:List aK):Bool:=!(l.any (yK gr sz))
theorem IM (sz gr:Int) (l:List aK) (w) (b) (c) (hN:l.length<=1000000) (hv:Rd 2 w (.slice b l.length c) l.length c (l.flatMap aK.cells)) (hgr:1<=gr) (hok:∀ x∈l,xD x):cT 115 [.slice b l.length c,zi sz,zi gr] w fun v _=>v=.bool (qW sz gr l):=by
 refine aJ (n:=11) func115 rfl ntmps115 (aA1 rfl) (rg (cO (cs:=[zi sz]) rfl rfl fun w1 B1 k1 z1 =>?_))
 have leB1:=aDl w.heap.size
 refine cO (cs:=[zi gr]) rfl rfl fun w2 B2 k2 z2 =>?_
 have nB1_B2:=aC8 B1.lt
 have leB2:=k1.size
 have b3:=aDu k1 k2
 have B1:=B1.below k2
 refine bU (nx (rg (aN (.slice b l.length c) rfl (sq (mf2 rfl rfl) (cE Zi (a2 rfl rfl) (Uv 171 [pt w1.heap.size 0,pt w.heap.size 0] (yK gr sz) b c l _ en171 (by omega) (hv.below b3) (fun W x hW hx=>Mb gr sz x W _ _ (B2.below hW) (B1.below hW) hgr (hok x hx))) ?_)))))
 rintro _ w4 k4 rfl
 have b5:=aDu b3 k4
 exact sq (cJ rfl) (aW (.bool (!(l.any (yK gr sz)))) rfl (nx (aE (bT rfl b5 rfl))))
theorem JN (l:List Int):l.flatMap gI=l.map (Value.int .i64):=by
 induction l with
 | nil=>rfl
 | cons x r ih=>rw [aBu,ih];rfl
theorem Ms (b) (c) (l:List Int) (w) (hN:l.length<=1000000) (hv:Rd 1 w (.slice b l.length c) l.length c (l.flatMap gI)):cT 210 [.slice b l.length c] w fun v W=>W.ownsRow w.heap.size 2 1 v l.length (l.flatMap gI):=by
 obtain ⟨h1,h2,h3,⟨e,e1,e2⟩ | ⟨g,o,e,hg,hr⟩⟩:=hv
 ·have e3:b=none:=by injection e
  subst e3
  refine (slices_Clone_nil _ _ w).mono ?_
  rintro e w' ⟨rfl,rfl⟩
  refine ⟨_,rfl,aDt _ _,?_⟩
  rw [aAt e1];exact fL _ _ _ _
 ·cases e
  obtain ⟨i0,hi0,hz0,hz1,hz2⟩:=info_parts Cc
  refine (slices_Clone i0 _ 1 8 hi0 hz0 hz1 hz2 rfl (by decide) sizeOf2 g o l.length c (l.flatMap gI) w h1 (by simp only [maxLen];omega) (by omega) (fun j u hu=>hr j u hu) ?_).mono ?_
  ·rw [JN];intro u hu;obtain ⟨x,_,rfl⟩:=aDc.1 hu;rfl
  ·rintro e w' ⟨v,rfl,h1,_,h2⟩
   exact ⟨v,rfl,h2,h1⟩
def Cy (l:List Int):List Int:=Lib.compact l
theorem FI (w):cT 209 [cP] w fun v _=>v=cP:=by
 refine aJ (n:=61) func209 rfl ntmps209 (aA1 rfl) (rg (bU (nx (aF (rg (aN (cP) rfl (sq (aY underlying39 rfl) (iJ (.bool true) (eT rfl rfl) rfl (nx (Ns rfl (rg (aN (cP) rfl ?_))))))))))))
 refine aW (cP) rfl (nx (aE ?_))
 refine bT (R:=fun v _=>v=cP) rfl (aDt _ _) (aD6 (b:=(cP:Value)) rfl ?_)
 rfl
theorem Lv {α:Type} [Inhabited α] (enc:α->Value) (w) (b o q) (d:Array α):KM (fun i=>some b=some i) w (Sort.putRow enc (Sort.ahead w q) b o d):=by
 refine ⟨rfl,rfl,rfl,by simp [Sort.putRow,Sort.mapBlock,Sort.ahead],fun i hi hM=>?_⟩
 have:b≠i:=fun e=>hM (by rw [e])
 simp [Sort.putRow,Sort.mapBlock,Sort.ahead,Array.getElem?_modify,this]
theorem Hh (base) (v) (l:List Int) (w) (hN:l.length<=1000000) (hv:w.ownsRow base 2 1 v l.length (l.flatMap gI)):jP (fun i=>v.ownBlock=some i) 209 [v] w fun u _=>∃ b c,u=.slice b (Cy l).length c:=by
 obtain ⟨h1,⟨e1,e2⟩ | ⟨g,cap,cur,e1,hbg,hg,hcap,hmax,hsz,htk⟩⟩:=hv
 ·subst e1
  refine (show Calls prog 209 _ w _ from FI w).mono ?_
  rintro e w' ⟨u,rfl,hb,rfl⟩
  rw [aAt e2]
  exact ⟨_,rfl,aDr hb,none,0,rfl⟩
 ·subst e1
  refine (slices_Compact (Value.int .i64) (fun _=>rfl) (EqlAt.intD _ _ _) (NeqAt.intD _ _ _) 0 zeroValue2 g 0 cap l.toArray w ?_ (by simp;omega) (by simpa using hcap)).mono ?_
  ·intro j hj
   have hB:Bk g cur.toList 2 w:=by unfold Bk;rw [hg]
   have hj2:j<l.length:=by simpa using hj
   have hx:cur.toList[j]? = some (zi (l.toArray[j]!)):=by
    have:=aD7 (fun xs=>xs[j]?) htk
    simp only [JN,List.getElem?_map,List.getElem?_take] at this
    rw [aEc (by omega),List.getElem?_eq_getElem hj2] at this
    rw [this];simp [hj2]
   rw [aDa]
   exact ⟨hB.cell j hx,hB.frozen j⟩
  ·rintro e w' ⟨rfl,q,rfl⟩
   exact ⟨_,rfl,Lv _ _ _ _ _ _,_,_,rfl⟩
def RR (a b:Int):Bool:=((GY a)&&(!(GY b)))||(decide ((a:Int)<(b:Int)))
theorem Px (a b:Int) (w)  : cT 236 [zi a,zi b] w fun v _=>v=.bool (RR a b):=by
 refine aJ (n:=17) func236 rfl ntmps236 (aA1 rfl) (rg (bU (nx ?_)))
 refine sQ (_::(vE (.bool (GY a)))::_::_::(GV (GY a) (vE (.bool (GY b))))::_::_::_::_::_::_::_::_::[]) [(12,4)] [] rfl ⟨aA,aA,aA,aD aA,aD aA,aD aA,aA,aA,aD aA,aD aA,aD aA,aA,aA,trivial⟩ (by kernel_rfl) rfl rfl rfl (fun Sd=>⟨
  bF Sd rfl rfl,
  oW [(0,5)] [] Sd rfl fun _ _ _ h _=>gV (a1 h.1) Kx (EX a _),
  oW [(1,6)] [] Sd rfl fun _ _ _ h _=>dv aT h.1,
  iP Sd rfl rfl,
  oT [(3,8)] [] Sd rfl i2 gU fun e _ _ _ h _=>dG e (gV (a1 (h.1.1 e)) Kx (EX b _)),
  dM [4] Sd rfl fun e _ h=>cJ (h.1.1 e),
  aP [2,5] Sd rfl fun h=>cG h.1 (fun c=>h.2.1.1 c),
  oW [(6,11)] [] Sd rfl fun _ _ _ h _=>dv aT h.1,
  tW Sd rfl rfl,
  tW Sd rfl rfl,
  cK [8,9] Sd rfl fun e _ h=>eT (h.1.1 e) (h.2.1.1 e),
  aP [7,10] Sd rfl fun h=>dA h.1 (fun c=>h.2.1.1 (tn c)),
  oW [(11,16)] [] Sd rfl fun _ _ _ h _=>dv kC h.1,
  trivial⟩) ?_
 rintro g1 w1 k1 ⟨s4,-⟩ -
 exact aE (bT rfl k1 s4)
theorem QD (a b:Int):RR a b=decide (a<b):=by simp [RR,Kb]
theorem XB (a b:Int) (w):cT 236 [zi a,zi b] w fun v _=>v=.bool (decide (a<b)):=by have:=Px a b w;rwa [QD] at this
def mK (l:List Int):Bool:=(List.range l.length).all fun k=>k == 0||!decide (l[k]! < l[k - 1]!)
theorem Jo {l:List Int} {k:Nat} (h0:2<=k) (hk:k<=l.length) (h:decide (l[k - 1]<l[k - 1 - 1])=true):mK l=false:=by
 unfold mK
 cases hc:(List.range l.length).all fun k=>k == 0||!decide (l[k]! < l[k - 1]!) with
 | false=>rfl
 | true=>
  have:=aB1.1 hc (k - 1) (aCw.2 (by omega))
  rw [iE (show k - 1<l.length by omega),iE (show k - 1 - 1<l.length by omega),h] at this
  simp at this;omega
theorem In {l:List Int} {n:Nat} (h0:2<=n) (hn:n<=l.length) (hP:∀ k,n<=k->k<l.length->decide (l[k]! < l[k - 1]!)=false) (h:decide (l[n - 1]<l[n - 1 - 1])=false):∀ k,n - 1<=k->k<l.length->decide (l[k]! < l[k - 1]!)=false:=fun k h1 h2=>by
 rcases aDd k n with h3 | h3
 ·have:k=n - 1:=by omega
  subst this
  rw [iE (show n - 1<l.length by omega),iE (show n - 1 - 1<l.length by omega)];exact h
 ·exact hP k h3 h2
theorem Hb {l:List Int} {n:Nat} (hn:n<=1) (hP:∀ k,n<=k->k<l.length->decide (l[k]! < l[k - 1]!)=false):mK l=true:=by
 unfold mK
 refine aB1.2 fun k hk=>?_
 rcases aBk k with rfl | h
 ·rfl
 ·rw [hP k (by omega) (aCw.1 hk)];simp
theorem Jy (b) (c) (l:List Int) (w) (hN:l.length<=1000000) (hv:Rd 1 w (.slice b l.length c) l.length c (l.flatMap gI)):cT 208 [.slice b l.length c] w fun v _=>v=.bool (mK l):=by
 refine aJ (n:=21) func208 rfl ntmps208 (aA1 rfl) (rg (bU (nx (aF (rg (aN (.slice b l.length c) rfl (sq (aY underlying39 rfl) (sq (tB rfl rfl (⟨by omega,by omega⟩)) (aW (zi ((((l.length:Nat):Int):Int) - (1:Int))) rfl (nx ?_))))))))))
 refine aO (lp (fun m g W=>∃ n:Nat,m=n/\g 0=.slice b l.length c/\g 2=.bool false/\g 3=zi (((n:Nat):Int) - 1)/\Below w.heap.size w W/\(n<=l.length/\∀ k,n<=k->k<l.length->decide (l[k]! < l[k - 1]!)=false)) _ ⟨l.length,rfl,rfl,rfl,rfl,aDt _ _,⟨aDl _,fun k h1 h2=>by omega⟩⟩ ?_)
 rintro m g1 w1 ⟨n,hme,s0,s2,s3,b1,⟨h1,h3⟩⟩
 refine aF (rg (bI s3 (sq (gH rfl rfl) (nx ?_))))
 refine cd rfl (fun c2=>?_) (fun c2=>?_)
 ·
  refine aG (aF (aO ?_))
  have hn2:2<=n:=by have:=aBp c2;omega
  have hl1:n - 1<l.length:=by omega
  have hl2:n - 1 - 1<l.length:=by omega
  obtain ⟨g,o,rfl,hg,hr⟩:=aD5 hv (aBg (aDm _) hl1)
  refine sD (_::_::_::_::_::_::_::_::_::(vE (.bool (decide ((l[n - 1]:Int)<(l[n - 1 - 1]:Int)))))::[]) [(9,20)] [0,2,3] rfl ⟨aA,aA,aA,aA,aA,aA,aA,aA,aA,aA,trivial⟩ (by kernel_rfl) rfl rfl (fun Sd=>⟨
   bF Sd rfl s0,
   bF Sd rfl (s3.trans (aD7 (Value.int .i64) (by omega))),
   aP [0,1] Sd rfl fun h=>bB underlying39 sizeOf2 h.1 h.2.1 hl1,
   fY [2] Sd rfl fun hT h=>cZ h.1 (cQ gI 1 jR hr hg (aDu b1 hT) hl1 0 _ rfl),
   bF Sd rfl s0,
   bF Sd rfl (s3.trans (aD7 (Value.int .i64) (by omega))),
   aP [5] Sd rfl fun h=>Gz h.1 rfl (by omega),
   aP [4,6] Sd rfl fun h=>bB underlying39 sizeOf2 h.1 h.2.1 hl2,
   fY [7] Sd rfl fun hT h=>cZ h.1 (cQ gI 1 jR hr hg (aDu b1 hT) hl2 0 _ rfl),
   oW [(3,14),(8,19)] [] Sd rfl fun _ _ _ h _=>gV (a2 h.1 h.2.1) en236 (XB (l[n - 1]) (l[n - 1 - 1]) _),
   trivial⟩) ?_
  rintro g4 w4 k4 ⟨s20,-⟩ ⟨o0,o2,o3,-⟩
  have s0:=o0.trans s0
  have s2:=o2.trans s2
  have s3:g4 3=zi ((n - 1:Nat):Int):=o3.trans (s3.trans (aD7 (Value.int .i64) (by omega)))
  have b5:=aDu b1 k4
  refine cd s20 (fun c6=>?_) (fun c6=>?_)
  ·
   refine rg (bU (nx (aE ?_)))
   exact bT (R:=fun v _=>v=.bool (mK l)) rfl b5 (aD6 (b:=(.bool false:Value)) rfl (aD7 Value.bool (Jo hn2 h1 c6).symm))
  ·
   exact aG (pI (eO (bI s3 (sq (tB rfl rfl (⟨by omega,by omega⟩)) (aW (zi ((((n - 1:Nat):Int):Int) - (1:Int))) rfl (nl (fC (by omega) ⟨n - 1,rfl,s0,s2,rfl,b5,⟨by omega,In hn2 h1 h3 c6⟩⟩)))))))
 ·
  refine cI ?_
  repeat refine bN ?_
  refine dP (rg (bU (nx (aE ?_))))
  exact bT (R:=fun v _=>v=.bool (mK l)) rfl b1 (aD6 (b:=(.bool true:Value)) rfl (aD7 Value.bool (Hb (by have:=aBe c2;omega) h3).symm))
def pB (l:List Int):Bool:=mK l&&decide ((((Cy l).length:Nat):Int)=((l.length:Nat):Int))
theorem Jg (b) (c) (l:List Int) (w) (hN:l.length<=1000000) (hv:Rd 1 w (.slice b l.length c) l.length c (l.flatMap gI)):cT 161 [.slice b l.length c] w fun v _=>v=.bool (pB l):=by
 refine aJ (n:=14) func161 rfl ntmps161 (aA1 rfl) (rg (bU (nx (rg (aN (.slice b l.length c) rfl (cE en208 (a1 rfl) (Jy b c l _ hN (hv.below (aDt _ _))) ?_))))))
 rintro _ w1 k1 rfl
 refine aN (.bool (mK l)) rfl ?_
 rcases Bool.eq_false_or_eq_true (mK l) with hs2 | hs2
 ·
  refine BQ (.slice b l.length c) rfl (aD7 Value.bool hs2) aT rfl (QZ (caps:=[]) rfl (aD7 Value.bool hs2) aAc rfl (ac (a1 rfl)) (Ms b c l _ hN (hv.below k1)) ?_)
  rintro vo w3 k3 hvo
  have b4:=aDu k1 k3
  have ol6:=aM hvo
  have lw5:∀ i,Value.ownBlock vo=some i->w.heap.size<=i:=fun i hi=>aC7 k1.size (ol6 i hi)
  refine clMg (caps:=[]) rfl (aD7 Value.bool hs2) en209 rfl (ac (a1 rfl)) (Hh _ _ l _ hN hvo) ?_
  rintro v7 w7 k7 ⟨bq,cq,rfl⟩
  have b8:=aDs k7 b4 b4.size (fun i hi=>lw5 i hi)
  refine BQ (zi (((Cy l).length:Nat):Int)) rfl (aD7 Value.bool hs2) (aY underlying39 rfl) rfl (BQ (.slice b l.length c) rfl (aD7 Value.bool hs2) aT rfl (BQ (zi ((l.length:Nat):Int)) rfl (aD7 Value.bool hs2) (aY underlying39 rfl) rfl (BQ (.bool (decide (((((Cy l).length:Nat):Int):Int)=(((l.length:Nat):Int):Int)))) rfl (aD7 Value.bool hs2) (eZ rfl rfl) rfl (iJ (.bool (decide (((((Cy l).length:Nat):Int):Int)=(((l.length:Nat):Int):Int)))) (uK (aD7 Value.bool hs2)) rfl (aW (.bool (decide (((((Cy l).length:Nat):Int):Int)=(((l.length:Nat):Int):Int)))) rfl (nx (aE ?_)))))))
  refine bT (R:=fun v _=>v=.bool (pB l)) rfl b8 (aD6 (b:=(.bool (decide (((((Cy l).length:Nat):Int):Int)=(((l.length:Nat):Int):Int))):Value)) rfl ?_)
  rw [pB,hs2];rfl
 ·
  refine sn rfl (aD7 Value.bool hs2) rfl (sn rfl (aD7 Value.bool hs2) rfl (sn rfl (aD7 Value.bool hs2) rfl (sn rfl (aD7 Value.bool hs2) rfl (sn rfl (aD7 Value.bool hs2) rfl (sn rfl (aD7 Value.bool hs2) rfl (sn rfl (aD7 Value.bool hs2) rfl (iJ (.bool false) (DE (aD7 Value.bool hs2)) rfl (aW (.bool false) rfl (nx (aE ?_))))))))))
  refine bT (R:=fun v _=>v=.bool (pB l)) rfl k1 (aD6 (b:=(.bool false:Value)) rfl ?_)
  rw [pB,hs2];rfl
theorem cg2 {A B:Bool} (e:(!(A||B))=true):A=false/\B=false:=by simpa using e
theorem cg4 {A B C D:Bool} (e:(!(((A||B)||C)||D))=true):A=false/\B=false/\C=false/\D=false:=by simp at e;simp [e]
theorem cg6 {A B C D E F:Bool} (e:(((((A||B)||C)||D)||E)||F)=false):A=false/\B=false/\C=false/\D=false:=by simp at e;simp [e]
theorem cgq {l:List Int} (h:(!(l.all bC))=false):∀ n∈l,0<=n/\n<=1099511627776:=fun n hn=>by
 simp at h;exact mH.1 (h n hn)
def Ru (x:bW) (last:ByteArray) (u:jC):Bool:=(((((!(Ab u.user))||(Xh u.user last))||(decide ((u.n:Int)<(1:Int))))||(!([u.n].all bC)))||(!decide (((u.n:Int).tmod (x.grain:Int):Int)=(0:Int))))||((decide ((0:Int)<(x.quota:Int)))&&(decide ((x.quota:Int)<(u.n:Int))))
theorem ub {x:bW} {u:jC} (h:Ru x last u=false):1<=u.n/\u.n<=1099511627776:=by
 unfold Ru at h
 simp at h
 have:=mH.1 h.1.1.2
 omega
theorem ug {A B C:Bool} {n:Int} (e:(!(((A||B)||C)||!([n].all bC)))=true):0<=n/\n<=1099511627776:=by
 simp at e;exact mH.1 e.2
def sR (x:bW):ByteArray->Int->List jC->Bool
 | _,acc,[]=>!(!decide ((acc:Int)=(x.size:Int)))
 | last,acc,u::r=>!Ru x last u&&(!(decide ((x.size:Int)<((acc:Int)+(u.n:Int):Int)))&&sR x u.user (acc+u.n) r)
def dX (x:bW):Bool:=!((((((!([x.size,x.grain,x.quota].all bC))||(decide ((x.grain:Int)<(1:Int))))||(!decide (((x.size:Int).tmod (x.grain:Int):Int)=(0:Int))))||(!decide ((cA 110 (cU x.free):Int)=(0:Int))))||(!(qW x.size x.grain x.free)))||(!(decide (bP x.free=x.free))))&&sR x ⟨#[]⟩ (jK (bP x.free)) x.uses
theorem LL {x:bW} {L:Bool} {acc:Int} (hk:k<x.uses.length) (hP:L=sR x last acc (x.uses.drop k)) (h:Ru x last x.uses[k]=false) (h2:(decide ((x.size:Int)<((acc:Int)+(x.uses[k].n:Int):Int)))=false):L=sR x x.uses[k].user (acc+x.uses[k].n) (x.uses.drop (k+1)):=by
 rw [hP,aAw hk,sR,h,h2];rfl
theorem Pd {x:bW} {L:Bool} {acc:Int} (hk:k<x.uses.length) (hP:L=sR x last acc (x.uses.drop k)) (h:Ru x last x.uses[k]=true):L=false:=by
 rw [hP,aAw hk,sR,h];rfl
theorem PK {x:bW} {L:Bool} {acc:Int} (hk:k<x.uses.length) (hP:L=sR x last acc (x.uses.drop k)) (h2:(decide ((x.size:Int)<((acc:Int)+(x.uses[k].n:Int):Int)))=true):L=false:=by
 rw [hP,aAw hk,sR,h2];simp
theorem QR {x:bW} {L:Bool} {acc:Int} (hP:L=sR x last acc (x.uses.drop x.uses.length)) (h:(!decide ((acc:Int)=(x.size:Int)))=true):L=false:=by
 rw [hP,aCd,sR,h];rfl
theorem NW {x:bW} {L:Bool} {acc:Int} (hP:L=sR x last acc (x.uses.drop x.uses.length)) (h:(!decide ((acc:Int)=(x.size:Int)))=false):L=true:=by
 rw [hP,aCd,sR,h];rfl
theorem Qj {x:bW} (h:((((((!([x.size,x.grain,x.quota].all bC))||(decide ((x.grain:Int)<(1:Int))))||(!decide (((x.size:Int).tmod (x.grain:Int):Int)=(0:Int))))||(!decide ((cA 110 (cU x.free):Int)=(0:Int))))||(!(qW x.size x.grain x.free)))||(!(decide (bP x.free=x.free))))=true):dX x=false:=by unfold dX;rw [h];rfl
theorem Cv {x:bW} (h:sR x ⟨#[]⟩ (jK (bP x.free)) x.uses=false):dX x=false:=by unfold dX;rw [h,Bool.and_false]
theorem PD {x:bW} (h:((((((!([x.size,x.grain,x.quota].all bC))||(decide ((x.grain:Int)<(1:Int))))||(!decide (((x.size:Int).tmod (x.grain:Int):Int)=(0:Int))))||(!decide ((cA 110 (cU x.free):Int)=(0:Int))))||(!(qW x.size x.grain x.free)))||(!(decide (bP x.free=x.free))))=false) (h2:sR x ⟨#[]⟩ (jK (bP x.free)) x.uses=true):dX x=true:=by unfold dX;rw [h,h2];rfl
theorem Jt (x) (w) (hx:x.Fit) (ha:x.At w):cT 37 [.agg (bW.cells x).toArray] w fun v _=>v=zi (cA 2 (dX x)):=by
 refine aJ (n:=121) func37 rfl ntmps37 (aA1 rfl) (rg (cO (cs:=bW.cells x) rfl rfl fun w1 B1 k1 z1 =>?_))
 have leB1:=aDl w.heap.size
 refine bU (nx (aF ?_))
 refine sD (_::_::_::_::_::_::(fun v w=>Rd 1 w v 3 3 [zi x.size,zi x.grain,zi x.quota])::(vE (.bool ([x.size,x.grain,x.quota].all bC)))::_::_::_::_::_::_::_::_::_::_::_::_::_::_::_::_::_::(GV (!(((!([x.size,x.grain,x.quota].all bC))||(decide ((x.grain:Int)<(1:Int))))||(!decide (((x.size:Int).tmod (x.grain:Int):Int)=(0:Int))))) (vE (zi (cA 110 (cU x.free)))))::_::_::_::_::_::_::_::_::_::(GV (!((((!([x.size,x.grain,x.quota].all bC))||(decide ((x.grain:Int)<(1:Int))))||(!decide (((x.size:Int).tmod (x.grain:Int):Int)=(0:Int))))||(!decide ((cA 110 (cU x.free):Int)=(0:Int))))) (vE (.bool (qW x.size x.grain x.free))))::_::_::_::_::_::(GV (!(((((!([x.size,x.grain,x.quota].all bC))||(decide ((x.grain:Int)<(1:Int))))||(!decide (((x.size:Int).tmod (x.grain:Int):Int)=(0:Int))))||(!decide ((cA 110 (cU x.free):Int)=(0:Int))))||(!(qW x.size x.grain x.free)))) (fun v w=>Rd 2 w v (bP x.free).length (bP x.free).length ((bP x.free).flatMap aK.cells)))::_::_::(GV (!(((((!([x.size,x.grain,x.quota].all bC))||(decide ((x.grain:Int)<(1:Int))))||(!decide (((x.size:Int).tmod (x.grain:Int):Int)=(0:Int))))||(!decide ((cA 110 (cU x.free):Int)=(0:Int))))||(!(qW x.size x.grain x.free)))) (vE (.bool (decide (bP x.free=x.free)))))::_::_::[]) [(46,53)] [1,2] rfl ⟨aA,aA,aA,aA,aA,aA,zT,aA,aA,aA,aD aA,aD aA,aD aA,aA,aA,aD aA,aD aA,aD aA,aD aA,aD aA,aD aA,aA,aA,aD aA,aD aA,aD aA,aD aA,aA,aA,aD aA,aD aA,aD aA,aD aA,aD aA,aD aA,aD aA,aD aA,aA,aA,aD aA,aD aA,aD zT,aD aA,aD aA,aD aA,aD aA,aA,trivial⟩ (by kernel_rfl) rfl rfl (fun S=>⟨
  jA 1 S rfl fun q=>sZ q,
  fY [0] S rfl fun hT h=>cZ h.1 ((B1.below hT).cell 0 rfl),
  jA 1 S rfl fun q=>An q,
  fY [2] S rfl fun hT h=>cZ h.1 ((B1.below hT).cell 1 rfl),
  jA 1 S rfl fun q=>Fi q,
  fY [4] S rfl fun hT h=>cZ h.1 ((B1.below hT).cell 2 rfl),
  ow [(1,8),(3,10),(5,12)] [] S rfl rfl rfl (by rintro g1 w1 hT ⟨h1,h3,h5,-⟩ -;exact xQ h1 h3 h5),
  oW [(6,13)] [] S rfl fun _ _ _ h _=>gV (a1 rfl) PW (wM (l:=[x.size,x.grain,x.quota]) h.1 (by simp) (m3 hx.size hx.grain hx.quota)),
  aP [7] S rfl fun h=>cJ h.1,
  oW [(8,15)] [] S rfl fun _ _ _ h _=>dv aT h.1,
  fW 1 S rfl fun e q=>An q,
  cK [10] S rfl fun e hT h=>cZ (h.1.1 e) ((B1.below hT).cell 1 rfl),
  cK [11] S rfl fun e _ h=>eT (h.1.1 e) rfl,
  aP [9,12] S rfl fun h=>dA h.1 (fun c=>h.2.1.1 (tn c)),
  oW [(13,20)] [] S rfl fun _ _ _ h _=>dv aT h.1,
  fW 1 S rfl fun e q=>sZ q,
  cK [15] S rfl fun e hT h=>cZ (h.1.1 e) ((B1.below hT).cell 0 rfl),
  fW 1 S rfl fun e q=>An q,
  cK [17] S rfl fun e hT h=>cZ (h.1.1 e) ((B1.below hT).cell 1 rfl),
  cK [16,18] S rfl fun e _ h=>Gn (h.1.1 e) (h.2.1.1 e) (by have:=cgq (cg2 e).1 x.size (by simp);omega) (by have:=aBe (cg2 e).2;omega),
  cK [19] S rfl fun e _ h=>gC (h.1.1 e) rfl,
  aP [14,20] S rfl fun h=>dA h.1 (fun c=>h.2.1.1 (tn c)),
  oW [(21,28)] [] S rfl fun _ _ _ h _=>dv aT h.1,
  fW 1 S rfl fun e q=>sC q,
  cK [23] S rfl fun e hT h=>uF (h.1.1 e) ((B1.below hT).cell 5 rfl),
  oF [(24,31)] [] S rfl i2 gU fun e _ _ hT h _=>dG e (gV (a1 (h.1.1 e)) QJ (Ad x.fb x.fc x.free _ hx.freeN (ha.free.below (aDu k1 hT)) hx.free)),
  cK [25] S rfl fun e _ h=>gC (h.1.1 e) rfl,
  aP [22,26] S rfl fun h=>dA h.1 (fun c=>h.2.1.1 (tn c)),
  oW [(27,34)] [] S rfl fun _ _ _ h _=>dv aT h.1,
  fW 1 S rfl fun e q=>sC q,
  cK [29] S rfl fun e hT h=>uF (h.1.1 e) ((B1.below hT).cell 5 rfl),
  fW 1 S rfl fun e q=>sZ q,
  cK [31] S rfl fun e hT h=>cZ (h.1.1 e) ((B1.below hT).cell 0 rfl),
  fW 1 S rfl fun e q=>An q,
  cK [33] S rfl fun e hT h=>cZ (h.1.1 e) ((B1.below hT).cell 1 rfl),
  oF [(30,37),(32,39),(34,41)] [] S rfl i2 gU fun e _ _ hT h _=>dG e (gV (a3 (h.1.1 e) (h.2.1.1 e) (h.2.2.1.1 e)) aAn (IM x.size x.grain x.free _ x.fb x.fc hx.freeN (ha.free.below (aDu k1 hT)) (by have:=aBe (cg4 e).2.1;omega) (En (nM (by decide) (cg4 e).2.2.2)))),
  cK [35] S rfl fun e _ h=>cJ (h.1.1 e),
  aP [28,36] S rfl fun h=>dA h.1 (fun c=>h.2.1.1 (tn c)),
  oW [(37,44)] [] S rfl fun _ _ _ h _=>dv aT h.1,
  fW 1 S rfl fun e q=>sC q,
  cK [39] S rfl fun e hT h=>uF (h.1.1 e) ((B1.below hT).cell 5 rfl),
  oF [(40,47)] [] S rfl i2 gU fun e _ _ hT h _=>dG e (gV (a1 (h.1.1 e)) KY (yE x.fb x.fc x.free _ hx.freeN (ha.free.below (aDu k1 hT)) hx.free)),
  fW 1 S rfl fun e q=>sC q,
  cK [42] S rfl fun e hT h=>uF (h.1.1 e) ((B1.below hT).cell 5 rfl),
  oF [(41,48),(43,50)] [] S rfl i2 gU fun e _ _ hT h _=>dG e (gV (a2 rfl (h.2.1.1 e)) en116 (WK _ _ _ _ (bP x.free) x.free _ (aC7 (tO _ hx.freeN) (by decide)) (h.1.1 e) (ha.free.below (aDu k1 hT)))),
  cK [44] S rfl fun e _ h=>cJ (h.1.1 e),
  aP [38,45] S rfl fun h=>dA h.1 (fun c=>h.2.1.1 (tn c)),
  trivial⟩) ?_
 rintro g2 w2 k2 ⟨s53,-⟩ ⟨o1,o2,-⟩
 have s1:g2 1=pt w.heap.size (0):=o1.trans rfl
 have s2:g2 2=zi (0):=o2.trans rfl
 have b3:=aDu k1 k2
 have B1:=B1.below k2
 refine cd s53 (fun c4=>?_) (fun c4=>?_)
 ·
  refine rg (bU (nx (aE ?_)))
  exact bT (R:=fun v _=>v=zi (cA 2 (dX x))) rfl b3 (aD6 (b:=(zi (2):Value)) rfl (aD7 (Value.int .i64) (oH (n:=2) (b:=dX x) (Qj c4)).symm))
 ·
  refine aG (rg (sq (sC s1) (sq (uF rfl (B1.cell 5 rfl)) ?_)))
  obtain ⟨q1,q2,q3,q4⟩:=cg6 c4
  have hq:=cgq q1
  have hsz:=hq x.size (by simp)
  have hgr:1<=x.grain:=by have:=aBe q2;omega
  have hsum:=DT x.free
  have hsu0:=xT (sX (l:=x.free))
  refine cE YP (a1 rfl) (MN x.fb x.fc x.free _ hx.freeN (ha.free.below b3) hx.free) ?_
  rintro _ w5 k5 rfl
  have b6:=aDu b3 k5
  have B1:=B1.below k5
  refine aW (zi (jK (bP x.free))) rfl (nx (rg (bU (nx (aF (rg (sq (IF s1) (sq (ZR rfl (B1.cell 6 rfl)) (sq (aY underlying68 rfl) (rU (nx ?_)))))))))))
  refine bD (fun k g W=>∃ last:ByteArray,∃ acc:Int,g 60=zi ((k:Nat):Int)/\g 59=zi (((x.uses.length:Nat)):Int)/\g 1=pt w.heap.size (0)/\g 2=zi (0)/\g 3=zi acc/\g 4=.string last/\g 58=.slice x.ub x.uses.length x.uc/\Bk w.heap.size (bW.cells x) 70 W/\Below w.heap.size w W/\(sR x ⟨#[]⟩ (jK (bP x.free)) x.uses=sR x last acc (x.uses.drop k)/\0<=acc/\acc<=1099511627776)) x.uses.length (by have:=hx.usesN;omega) (fun _ _ _ ⟨last,acc,h⟩=>⟨h.1,h.2.1⟩) ⟨⟨#[]⟩,jK (bP x.free),rfl,rfl,s1,s2,rfl,rfl,rfl,B1,b6,⟨rfl,hsu0,hsum⟩⟩ rfl rfl (fun _ _ _ _ h=>h) ?_ ?_
  ·
   rintro k g7 w7 hk ⟨last,acc,s60,s59,s1,s2,s3,s4,s58,B1,b7,⟨hP,ha1,ha2⟩⟩
   obtain ⟨g,o,hge,hg,hr⟩:=aD5 ha.uses (aBg (aDm _) hk)
   have s58b:=s58
   rw [hge] at s58b
   refine rg (sq (bB underlying68 sizeOf119 s58b s60 hk) (sq (VH rfl (cQ jC.cells 2 jC.len hr hg b7 hk) rfl) (eA (cs:=[.string (⟨#[]⟩),aV]) zeroValue119 rfl fun w8 B8 k8 z8 =>?_)))
   have nB1_B8:=aC8 B1.lt
   have leB8:=b7.size
   have b9:=aDu b7 k8
   have B1:=B1.below k8
   refine bR (vs:=jC.cells x.uses[k]) B8 sizeOf119 rfl rfl rfl rfl fun w10 B8n O10 z10 =>?_
   replace B8:=B8n
   have b11:=aS.toBelow O10 b9 b9.size leB8
   have B1:=B1.only O10 nB1_B8
   refine nx (aF ?_)
   refine sQ (_::_::(vE (.bool (Ab (x.uses[k].user))))::_::_::_::_::_::_::_::_::_::_::_::_::_::_::_::(GV (!(((!(Ab (x.uses[k].user)))||(Xh (x.uses[k].user) last))||(decide ((x.uses[k].n:Int)<(1:Int))))) (fun v w=>Rd 1 w v 1 1 [zi (x.uses[k].n)]))::(GV (!(((!(Ab (x.uses[k].user)))||(Xh (x.uses[k].user) last))||(decide ((x.uses[k].n:Int)<(1:Int))))) (vE (.bool ([x.uses[k].n].all bC))))::_::_::_::_::_::_::_::_::_::_::_::_::_::_::_::_::_::_::_::_::_::_::[]) [(41,105)] [1,2,3,4,6,58,59,60] rfl ⟨aA,aA,aA,aA,aA,aD aA,aD aA,aD aA,aD aA,aA,aA,aD aA,aD aA,aD aA,aA,aA,aD aA,aD aA,aD zT,aD aA,aD aA,aA,aA,aD aA,aD aA,aD aA,aD aA,aD aA,aD aA,aA,aA,aD aA,aD aA,aD aA,aD aA,aD aA,aD aA,aD aA,aD aA,aD aA,aD aA,aA,trivial⟩ (by kernel_rfl) rfl rfl rfl (fun S=>⟨
    jA 6 S rfl fun q=>AY q,
    fY [0] S rfl fun hT h=>nY h.1 ((B8.below hT).cell 0 rfl),
    oW [(1,65)] [] S rfl fun _ _ _ h _=>gV (a1 h.1) en119 (Qv (x.uses[k].user) _),
    aP [2] S rfl fun h=>cJ h.1,
    oW [(3,67)] [] S rfl fun _ _ _ h _=>dv aT h.1,
    fW 6 S rfl fun e q=>AY q,
    cK [5] S rfl fun e hT h=>nY (h.1.1 e) ((B8.below hT).cell 0 rfl),
    tW S rfl s4,
    cK [6,7] S rfl fun e _ h=>VX (h.1.1 e) (h.2.1.1 e),
    aP [4,8] S rfl fun h=>dA h.1 (fun c=>h.2.1.1 (tn c)),
    oW [(9,73)] [] S rfl fun _ _ _ h _=>dv aT h.1,
    fW 6 S rfl fun e q=>tM q,
    cK [11] S rfl fun e hT h=>cZ (h.1.1 e) ((B8.below hT).cell 1 rfl),
    cK [12] S rfl fun e _ h=>eT (h.1.1 e) rfl,
    aP [10,13] S rfl fun h=>dA h.1 (fun c=>h.2.1.1 (tn c)),
    oW [(14,78)] [] S rfl fun _ _ _ h _=>dv aT h.1,
    fW 6 S rfl fun e q=>tM q,
    cK [16] S rfl fun e hT h=>cZ (h.1.1 e) ((B8.below hT).cell 1 rfl),
    og (kd:=79) (!(((!(Ab (x.uses[k].user)))||(Xh (x.uses[k].user) last))||(decide ((x.uses[k].n:Int)<(1:Int))))) [(17,81)] [] S rfl rfl rfl rfl (fun _ _ h=>YC h) (fun _ e=>Wz e) (by rintro e g1 w1 hT ⟨h17,-⟩ -;exact dG e (yI (h17.1 e))),
    oF [(18,82)] [] S rfl i2 gU fun e _ _ _ h _=>dG e (gV (a1 rfl) PW (wM (l:=[x.uses[k].n]) (h.1.1 e) (by simp) (m1 ((hx.uses _ (aBz hk)).n)))),
    cK [19] S rfl fun e _ h=>cJ (h.1.1 e),
    aP [15,20] S rfl fun h=>dA h.1 (fun c=>h.2.1.1 (tn c)),
    oW [(21,85)] [] S rfl fun _ _ _ h _=>dv aT h.1,
    fW 6 S rfl fun e q=>tM q,
    cK [23] S rfl fun e hT h=>cZ (h.1.1 e) ((B8.below hT).cell 1 rfl),
    fW 1 S rfl fun e q=>An (q.trans s1),
    cK [25] S rfl fun e hT h=>cZ (h.1.1 e) ((B1.below hT).cell 1 rfl),
    cK [24,26] S rfl fun e _ h=>Gn (h.1.1 e) (h.2.1.1 e) (by have:=ug e;omega) hgr,
    cK [27] S rfl fun e _ h=>gC (h.1.1 e) rfl,
    aP [22,28] S rfl fun h=>dA h.1 (fun c=>h.2.1.1 (tn c)),
    oW [(29,93)] [] S rfl fun _ _ _ h _=>dv aT h.1,
    fW 1 S rfl fun e q=>Fi (q.trans s1),
    cK [31] S rfl fun e hT h=>cZ (h.1.1 e) ((B1.below hT).cell 2 rfl),
    cK [32] S rfl fun e _ h=>gH (h.1.1 e) rfl,
    oF [(33,97)] [] S rfl i2 gU fun e _ _ _ h _=>dv aT (mY e (h.1.1 e)),
    AZ [] [6] S rfl i2 gU fun e _ _ _ _ q=>dv (tM q.1) (mY e rfl),
    rX [35] S rfl fun e hT h=>cZ (h.1.1 e) ((B8.below hT).cell 1 rfl),
    AZ [] [1] S rfl i2 gU fun e _ _ _ _ q=>dv (Fi (q.1.trans s1)) (mY e rfl),
    rX [37] S rfl fun e hT h=>cZ (h.1.1 e) ((B1.below hT).cell 2 rfl),
    rX [36,38] S rfl fun e _ h=>gH (h.1.1 e) (h.2.1.1 e),
    cK [34,39] S rfl fun e _ h=>cG (h.1.1 e) (fun c=>h.2.1.1 (aa e c)),
    aP [30,40] S rfl fun h=>dA h.1 (fun c=>h.2.1.1 (tn c)),
    trivial⟩) ?_
   rintro g12 w12 k12 ⟨s105,-⟩ ⟨o1,o2,o3,o4,o6,o58,o59,o60,-⟩
   have s1:=o1.trans s1
   have s2:=o2.trans s2
   have s3:=o3.trans s3
   have s6:g12 6=pt w7.heap.size (0):=o6.trans rfl
   have s58:g12 58=.slice (some ⟨g,o,none⟩) x.uses.length x.uc:=o58.trans s58b
   have s59:=o59.trans s59
   have s60:=o60.trans s60
   have b13:=aDu b11 k12
   have B1:=B1.below k12
   have B8:=B8.below k12
   refine cd s105 (fun c14=>?_) (fun c14=>?_)
   ·
    refine rg (bU (nx (aE ?_)))
    exact bT (R:=fun v _=>v=zi (cA 2 (dX x))) rfl b13 (aD6 (b:=(zi (2):Value)) rfl (aD7 (Value.int .i64) (oH (n:=2) (b:=dX x) (Cv (Pd hk hP c14))).symm))
   ·
    refine aG (rg (sq (AY s6) (sq (nY rfl (B8.cell 0 rfl)) (aW (.string (x.uses[k].user)) rfl (nx (rg (bI s3 (sq (tM s6) (sq (cZ rfl (B8.cell 1 rfl)) (sq (iK rfl rfl (⟨by have:=ub c14;omega,by have:=ub c14;omega⟩)) (aW (zi ((acc:Int)+(x.uses[k].n:Int))) rfl (nx ?_))))))))))))
    refine rg (aN (zi ((acc:Int)+(x.uses[k].n:Int))) rfl (sq (sZ s1) (sq (cZ rfl (B1.cell 0 rfl)) (sq (gH rfl rfl) (nx ?_)))))
    refine cd rfl (fun c15=>?_) (fun c15=>?_)
    ·
     refine rg (bU (nx (aE ?_)))
     exact bT (R:=fun v _=>v=zi (cA 2 (dX x))) rfl b13 (aD6 (b:=(zi (2):Value)) rfl (aD7 (Value.int .i64) (oH (n:=2) (b:=dX x) (Cv (PK hk hP c15))).symm))
    ·
     exact aG (dO ⟨⟨x.uses[k].user,acc+x.uses[k].n,rfl,s59,s1,s2,rfl,rfl,(s58.trans (by rw [hge])),B1,b13,⟨LL hk hP c14 c15,by have:=ub c14;omega,by have:=aBe c15;omega⟩⟩,s60⟩)
  ·
   rintro g16 w16 ⟨last,acc,s60,s59,s1,s2,s3,s4,s58,B1,b16,⟨hP,ha1,ha2⟩⟩
   refine aF (rg (bI s3 (sq (sZ s1) (sq (cZ rfl (B1.cell 0 rfl)) (sq (gC rfl rfl) (nx ?_))))))
   refine cd rfl (fun c17=>?_) (fun c17=>?_)
   ·
    refine rg (bU (nx (aE ?_)))
    exact bT (R:=fun v _=>v=zi (cA 2 (dX x))) rfl b16 (aD6 (b:=(zi (2):Value)) rfl (aD7 (Value.int .i64) (oH (n:=2) (b:=dX x) (Cv (QR hP c17))).symm))
   ·
    refine aG (rg (bU (nx (aE ?_))))
    exact bT (R:=fun v _=>v=zi (cA 2 (dX x))) rfl b16 (aD6 (b:=(zi (0):Value)) rfl (aD7 (Value.int .i64) (uH (n:=2) (b:=dX x) (PD c4 (NW hP c17))).symm))
def yR (n:Int):Bool:=(decide ((n:Int)<(1:Int)))||(decide ((1073741824:Int)<(n:Int)))
theorem Ie (n:Int) (w)  : cT 207 [zi n] w fun v _=>v=.bool (yR n):=by
 refine aJ (n:=9) func207 rfl ntmps207 (aA1 rfl) (rg (bU (nx ?_)))
 refine sQ (_::_::_::_::_::_::_::[]) [(6,2)] [] rfl ⟨aA,aA,aA,aD aA,aD aA,aA,aA,trivial⟩ (by kernel_rfl) rfl rfl rfl (fun S=>⟨
  bF S rfl rfl,
  aP [0] S rfl fun h=>eT h.1 rfl,
  oW [(1,4)] [] S rfl fun _ _ _ h _=>dv aT h.1,
  tW S rfl rfl,
  cK [3] S rfl fun e _ h=>gH (h.1.1 e) rfl,
  aP [2,4] S rfl fun h=>dA h.1 (fun c=>h.2.1.1 (tn c)),
  oW [(5,8)] [] S rfl fun _ _ _ h _=>dv kC h.1,
  trivial⟩) ?_
 rintro g1 w1 k1 ⟨s2,-⟩ -
 exact aE (bT rfl k1 s2)
def yV (l:List Int):Bool:=!(l.any yR)
theorem Kd (v) (c) (l:List Int) (w) (hN:l.length<=1000000) (hv:Rd 1 w v l.length c (l.flatMap gI)):cT 160 [v] w fun u _=>u=.bool (yV l):=by
 obtain ⟨b,rfl,hv⟩:=eJ hv
 refine aJ (n:=6) func160 rfl ntmps160 (aA1 rfl) (rg (bU (nx (rg (aN (.slice b l.length c) rfl (cE FG (a2 rfl rfl) (yW 207 [] yR b c l _ YT (by omega) (hv.below (aDt _ _)) (fun W x _ _=>Ie x W)) ?_))))))
 rintro _ w1 k1 rfl
 refine sq (cJ rfl) (aW (.bool (!(l.any yR))) rfl (nx (aE ?_)))
 refine bT (R:=fun v _=>v=.bool (yV l)) rfl k1 (aD6 (b:=(.bool (!(l.any yR)):Value)) rfl ?_)
 rfl
def mG (x:dI):Bool:=(bif ((((!(dK (x.user).data.toList))||(!(dK (x.pool).data.toList)))||(decide ((((x.exts.length:Nat):Int):Int)=(0:Int))))||(!decide ((cA 110 (cU x.exts):Int)=(0:Int)))) then false else (bif (decide ((x.job:Int)=(0:Int))) then ((((dK (x.name).data.toList)&&(decide ((((x.refs.length:Nat):Int):Int)<=(200:Int))))&&(yV x.refs))&&(pB x.refs)) else ((((yV [x.job])&&(decide (x.name=(⟨#[]⟩))))&&(!(x.opn)))&&(decide ((((x.refs.length:Nat):Int):Int)=(0:Int))))))
theorem SZ (x) (w) (hx:x.Fit) (ha:x.At w):cT 105 [.agg (dI.cells x).toArray] w fun v _=>v=.bool (mG x):=by
 refine aJ (n:=67) func105 rfl ntmps105 (aA1 rfl) (rg (cO (cs:=dI.cells x) rfl rfl fun w1 B1 k1 z1 =>?_))
 have leB1:=aDl w.heap.size
 refine bU (nx (aF ?_))
 refine sQ (_::_::(vE (.bool (dK (x.user).data.toList)))::_::_::_::_::(GV (!(!(dK (x.user).data.toList))) (vE (.bool (dK (x.pool).data.toList))))::_::_::_::_::_::_::_::_::_::_::_::(GV (!(((!(dK (x.user).data.toList))||(!(dK (x.pool).data.toList)))||(decide ((((x.exts.length:Nat):Int):Int)=(0:Int))))) (vE (zi (cA 110 (cU x.exts)))))::_::_::[]) [(21,24)] [1,2] rfl ⟨aA,aA,aA,aA,aA,aD aA,aD aA,aD aA,aD aA,aA,aA,aD aA,aD aA,aD aA,aD aA,aA,aA,aD aA,aD aA,aD aA,aD aA,aA,trivial⟩ (by kernel_rfl) rfl rfl rfl (fun S=>⟨
  jA 1 S rfl fun q=>Kk q,
  fY [0] S rfl fun hT h=>nY h.1 ((B1.below hT).cell 2 rfl),
  oW [(1,4)] [] S rfl fun _ _ _ h _=>gV (a1 h.1) Jq (oM (lO x.user _ (aC7 hx.user (by decide)))),
  aP [2] S rfl fun h=>cJ h.1,
  oW [(3,6)] [] S rfl fun _ _ _ h _=>dv aT h.1,
  fW 1 S rfl fun e q=>Ba q,
  cK [5] S rfl fun e hT h=>nY (h.1.1 e) ((B1.below hT).cell 3 rfl),
  oF [(6,9)] [] S rfl i2 gU fun e _ _ _ h _=>dG e (gV (a1 (h.1.1 e)) Jq (oM (lO x.pool _ (aC7 hx.pool (by decide))))),
  cK [7] S rfl fun e _ h=>cJ (h.1.1 e),
  aP [4,8] S rfl fun h=>dA h.1 (fun c=>h.2.1.1 (tn c)),
  oW [(9,12)] [] S rfl fun _ _ _ h _=>dv aT h.1,
  fW 1 S rfl fun e q=>tE q,
  cK [11] S rfl fun e hT h=>uF (h.1.1 e) ((B1.below hT).cell 5 rfl),
  cK [12] S rfl fun e _ h=>aY underlying67 (h.1.1 e),
  cK [13] S rfl fun e _ h=>eZ (h.1.1 e) rfl,
  aP [10,14] S rfl fun h=>dA h.1 (fun c=>h.2.1.1 (tn c)),
  oW [(15,18)] [] S rfl fun _ _ _ h _=>dv aT h.1,
  fW 1 S rfl fun e q=>tE q,
  cK [17] S rfl fun e hT h=>uF (h.1.1 e) ((B1.below hT).cell 5 rfl),
  oF [(18,21)] [] S rfl i2 gU fun e _ _ hT h _=>dG e (gV (a1 (h.1.1 e)) QJ (Ad x.eb x.ec x.exts _ hx.extsN (ha.exts.below (aDu k1 hT)) hx.exts)),
  cK [19] S rfl fun e _ h=>gC (h.1.1 e) rfl,
  aP [16,20] S rfl fun h=>dA h.1 (fun c=>h.2.1.1 (tn c)),
  trivial⟩) ?_
 rintro g2 w2 k2 ⟨s24,-⟩ ⟨o1,o2,-⟩
 have s1:g2 1=pt w.heap.size (0):=o1.trans rfl
 have s2:g2 2=.bool false:=o2.trans rfl
 have b3:=aDu k1 k2
 have B1:=B1.below k2
 refine cd s24 (fun c4=>?_) (fun c4=>?_)
 ·
  refine rg (bU (nx (aE ?_)))
  exact bT (R:=fun v _=>v=.bool (mG x)) rfl b3 (aD6 (b:=(.bool false:Value)) rfl (aD7 Value.bool (show mG x=_ from (xM c4)).symm))
 ·
  refine aG (aF (rg (sq (Bl s1) (sq (cZ rfl (B1.cell 0 rfl)) (sq (eZ rfl rfl) (nx ?_))))))
  refine cd rfl (fun c5=>?_) (fun c5=>?_)
  ·
   refine sQ (_::_::(vE (.bool (dK (x.name).data.toList)))::_::_::_::_::_::_::_::_::_::(GV ((dK (x.name).data.toList)&&(decide ((((x.refs.length:Nat):Int):Int)<=(200:Int)))) (vE (.bool (yV x.refs))))::_::_::_::_::(GV (((dK (x.name).data.toList)&&(decide ((((x.refs.length:Nat):Int):Int)<=(200:Int))))&&(yV x.refs)) (vE (.bool (pB x.refs))))::_::_::[]) [(19,2)] [1] rfl ⟨aA,aA,aA,aA,aD aA,aD aA,aD aA,aD aA,aA,aA,aD aA,aD aA,aD aA,aA,aA,aD aA,aD aA,aD aA,aA,aA,trivial⟩ (by kernel_rfl) rfl rfl rfl (fun S=>⟨
    jA 1 S rfl fun q=>Bv (q.trans s1),
    fY [0] S rfl fun hT h=>nY h.1 ((B1.below hT).cell 1 rfl),
    oW [(1,29)] [] S rfl fun _ _ _ h _=>gV (a1 h.1) Jq (oM (lO x.name _ (aC7 hx.name (by decide)))),
    oW [(2,30)] [] S rfl fun _ _ _ h _=>dv aT h.1,
    qI 1 S rfl fun e q=>tH (q.trans s1),
    dM [4] S rfl fun e hT h=>Ek (h.1.1 e) ((B1.below hT).cell 6 rfl),
    dM [5] S rfl fun e _ h=>aY underlying39 (h.1.1 e),
    dM [6] S rfl fun e _ h=>xV (h.1.1 e) rfl,
    aP [3,7] S rfl fun h=>cG h.1 (fun c=>h.2.1.1 c),
    oW [(8,36)] [] S rfl fun _ _ _ h _=>dv aT h.1,
    qI 1 S rfl fun e q=>tH (q.trans s1),
    dM [10] S rfl fun e hT h=>Ek (h.1.1 e) ((B1.below hT).cell 6 rfl),
    oT [(11,39)] [] S rfl i2 gU fun e _ _ hT h _=>dG e (gV (a1 (h.1.1 e)) Vz (Kd _ x.rc x.refs _ hx.refsN (ha.refs.below (aDu b3 hT)))),
    aP [9,12] S rfl fun h=>cG h.1 (fun c=>h.2.1.1 c),
    oW [(13,41)] [] S rfl fun _ _ _ h _=>dv aT h.1,
    qI 1 S rfl fun e q=>tH (q.trans s1),
    dM [15] S rfl fun e hT h=>Ek (h.1.1 e) ((B1.below hT).cell 6 rfl),
    oT [(16,44)] [] S rfl i2 gU fun e _ _ hT h _=>dG e (gV (a1 (h.1.1 e)) ZV (Jg x.rb x.rc x.refs _ hx.refsN (ha.refs.below (aDu b3 hT)))),
    aP [14,17] S rfl fun h=>cG h.1 (fun c=>h.2.1.1 c),
    oW [(18,46)] [] S rfl fun _ _ _ h _=>dv kC h.1,
    trivial⟩) ?_
   rintro g6 w6 k6 ⟨s2,-⟩ ⟨o1,-⟩
   have b7:=aDu b3 k6
   refine aE ?_
   exact bT (R:=fun v _=>v=.bool (mG x)) rfl b7 (aD6 (b:=(.bool ((((dK (x.name).data.toList)&&(decide ((((x.refs.length:Nat):Int):Int)<=(200:Int))))&&(yV x.refs))&&(pB x.refs)):Value)) s2 (aD7 Value.bool (show mG x=_ from ((uP c4).trans (xM c5))).symm))
  ·
   refine aG ?_
   refine sQ (_::_::(fun v w=>Rd 1 w v 1 1 [zi x.job])::(vE (.bool (yV [x.job])))::_::_::_::_::_::_::_::_::_::_::_::_::_::_::_::_::_::[]) [(20,2)] [] rfl ⟨aA,aA,zT,aA,aA,aD aA,aD aA,aD aA,aA,aA,aD aA,aD aA,aD aA,aA,aA,aD aA,aD aA,aD aA,aD aA,aA,aA,trivial⟩ (by kernel_rfl) rfl rfl rfl (fun S=>⟨
    jA 1 S rfl fun q=>Bl (q.trans s1),
    fY [0] S rfl fun hT h=>cZ h.1 ((B1.below hT).cell 0 rfl),
    ow [(1,48)] [] S rfl rfl rfl (by rintro g1 w1 hT ⟨h1,-⟩ -;exact yI h1),
    oW [(2,49)] [] S rfl fun _ _ _ h _=>gV (a1 rfl) Vz (Kd _ _ [x.job] _ (by simp) h.1),
    oW [(3,50)] [] S rfl fun _ _ _ h _=>dv aT h.1,
    qI 1 S rfl fun e q=>Bv (q.trans s1),
    dM [5] S rfl fun e hT h=>nY (h.1.1 e) ((B1.below hT).cell 1 rfl),
    dM [6] S rfl fun e _ h=>AO (h.1.1 e) rfl,
    aP [4,7] S rfl fun h=>cG h.1 (fun c=>h.2.1.1 c),
    oW [(8,55)] [] S rfl fun _ _ _ h _=>dv aT h.1,
    qI 1 S rfl fun e q=>Ld (q.trans s1),
    dM [10] S rfl fun e hT h=>DB (h.1.1 e) ((B1.below hT).cell 4 rfl),
    dM [11] S rfl fun e _ h=>cJ (h.1.1 e),
    aP [9,12] S rfl fun h=>cG h.1 (fun c=>h.2.1.1 c),
    oW [(13,60)] [] S rfl fun _ _ _ h _=>dv aT h.1,
    qI 1 S rfl fun e q=>tH (q.trans s1),
    dM [15] S rfl fun e hT h=>Ek (h.1.1 e) ((B1.below hT).cell 6 rfl),
    dM [16] S rfl fun e _ h=>aY underlying39 (h.1.1 e),
    dM [17] S rfl fun e _ h=>eZ (h.1.1 e) rfl,
    aP [14,18] S rfl fun h=>cG h.1 (fun c=>h.2.1.1 c),
    oW [(19,66)] [] S rfl fun _ _ _ h _=>dv kC h.1,
    trivial⟩) ?_
   rintro g8 w8 k8 ⟨s2,-⟩ -
   have b9:=aDu b3 k8
   refine aE ?_
   exact bT (R:=fun v _=>v=.bool (mG x)) rfl b9 (aD6 (b:=(.bool ((((yV [x.job])&&(decide (x.name=(⟨#[]⟩))))&&(!(x.opn)))&&(decide ((((x.refs.length:Nat):Int):Int)=(0:Int)))):Value)) s2 (aD7 Value.bool (show mG x=_ from ((uP c4).trans (uP c5))).symm))
def Lb:List Int->Int
 | []=>0
 | x::r=>if x=0 then Lb r else x
theorem WU {l:List Int} {o:Int} (hk:k<l.length) (hP:o=Lb (l.drop k)) (h:(!decide (l[k]=0))=false):o=Lb (l.drop (k+1)):=by
 rw [hP,aAw hk,Lb];simp at h;rw [aEc h]
theorem Og {l:List Int} {o:Int} (hk:k<l.length) (hP:o=Lb (l.drop k)) (h:(!decide (l[k]=0))=true):o=l[k]:=by
 rw [hP,aAw hk,Lb];simp at h;rw [aEd h]
theorem Vk {l:List Int} {o:Int} (hP:o=Lb (l.drop l.length)):o=0:=by rw [hP,aCd];rfl
theorem Xj (v) (c) (l:List Int) (w) (hN:l.length<=1000000) (hv:Rd 1 w v l.length c (l.flatMap gI)):cT 157 [v] w fun u _=>u=zi (Lb l):=by
 obtain ⟨b,rfl,hv⟩:=eJ hv
 refine aJ (n:=18) func157 rfl ntmps157 (aA1 rfl) (rg (bU (nx (rg (bU (nx (aF (rg (aN (.slice b l.length c) rfl (sq (aY underlying293 rfl) (rU (nx ?_))))))))))))
 refine bD (fun k g W=>g 8=zi ((k:Nat):Int)/\g 7=zi (((l.length:Nat)):Int)/\g 2=zi (0)/\g 3=zi (0)/\g 6=.slice b l.length c/\Below w.heap.size w W/\(Lb l=Lb (l.drop k))) l.length (by omega) (fun _ _ _ h=>⟨h.1,h.2.1⟩) ⟨rfl,rfl,rfl,rfl,rfl,aDt _ _,rfl⟩ rfl rfl (fun _ _ _ _ h=>h) ?_ ?_
 ·
  rintro k g1 w1 hk ⟨s8,s7,s2,s3,s6,b1,hP⟩
  obtain ⟨g,o,rfl,hg,hr⟩:=aD5 hv (aBg (aDm _) hk)
  refine rg (sq (bB underlying293 sizeOf3 s6 s8 hk) (sq (EI rfl (cQ gI 1 jR hr hg b1 hk 0 _ rfl)) (aW (zi (l[k])) rfl (nx (rg (aN (zi (l[k])) rfl (bI s3 (sq (gC rfl rfl) (nx ?_)))))))))
  refine cd rfl (fun c2=>?_) (fun c2=>?_)
  ·
   refine rg (aN (zi (l[k])) rfl (aW (zi (l[k])) rfl (nx (aE ?_))))
   exact bT (R:=fun v _=>v=zi (Lb l)) rfl b1 (aD6 (b:=(zi (l[k]):Value)) rfl (aD7 (Value.int .i64) (Og hk hP c2).symm))
  ·
   exact aG (dO ⟨⟨rfl,s7,s2,s3,s6,b1,WU hk hP c2⟩,s8⟩)
 ·
  rintro g3 w3 ⟨s8,s7,s2,s3,s6,b3,hP⟩
  refine rg (bI s3 (aW aV rfl (nx (aE ?_))))
  exact bT (R:=fun v _=>v=zi (Lb l)) rfl b3 (aD6 (b:=(zi (0):Value)) rfl (aD7 (Value.int .i64) (Vk hP).symm))
def xO (j1:Int) (n1:ByteArray) (j2:Int) (n2:ByteArray):Int:=Lb [jN j1 j2,Lib.compareBytes (n1).data.toList (n2).data.toList]
theorem Gb (j1:Int) (n1) (j2:Int) (n2) (w)  : cT 104 [.agg [zi j1,.string n1].toArray,.agg [zi j2,.string n2].toArray] w fun v _=>v=zi (xO j1 n1 j2 n2):=by
 refine aJ (n:=17) func104 rfl ntmps104 (aA1 rfl) (rg (cO (cs:=[zi j1,.string n1]) rfl rfl fun w1 B1 k1 z1 =>?_))
 have leB1:=aDl w.heap.size
 refine cO (cs:=[zi j2,.string n2]) rfl rfl fun w2 B2 k2 z2 =>?_
 have nB1_B2:=aC8 B1.lt
 have leB2:=k1.size
 have b3:=aDu k1 k2
 have B1:=B1.below k2
 refine bU (nx ?_)
 refine sD (_::_::_::_::(vE (zi (jN j1 j2)))::_::_::_::_::(vE (zi (Lib.compareBytes (n1).data.toList (n2).data.toList)))::(fun v w=>Rd 1 w v 2 2 [zi (jN j1 j2),zi (Lib.compareBytes (n1).data.toList (n2).data.toList)])::(vE (zi (Lb [jN j1 j2,Lib.compareBytes (n1).data.toList (n2).data.toList])))::_::[]) [(12,4)] [] rfl ⟨aA,aA,aA,aA,aA,aA,aA,aA,aA,aA,zT,aA,aA,trivial⟩ (by kernel_rfl) rfl rfl (fun S=>⟨
  jA 2 S rfl fun q=>Ka q,
  fY [0] S rfl fun hT h=>cZ h.1 ((B1.below hT).cell 0 rfl),
  jA 3 S rfl fun q=>Ka q,
  fY [2] S rfl fun hT h=>cZ h.1 ((B2.below hT).cell 0 rfl),
  oW [(1,6),(3,8)] [] S rfl fun _ _ _ h _=>gV (a2 h.1 h.2.1) VP (Ax j1 j2 _),
  jA 2 S rfl fun q=>KP q,
  fY [5] S rfl fun hT h=>nY h.1 ((B1.below hT).cell 1 rfl),
  jA 3 S rfl fun q=>KP q,
  fY [7] S rfl fun hT h=>nY h.1 ((B2.below hT).cell 1 rfl),
  oW [(6,11),(8,13)] [] S rfl fun _ _ _ h _=>gV (a2 h.1 h.2.1) en159 (Dc (strings_Compare n1 n2 _)),
  ow [(4,9),(9,14)] [] S rfl rfl rfl (by rintro g1 w1 hT ⟨h4,h9,-⟩ -;exact Lg h4 h9),
  oW [(10,15)] [] S rfl fun _ _ _ h _=>gV (a1 rfl) en157 (Xj _ _ [jN j1 j2,Lib.compareBytes (n1).data.toList (n2).data.toList] _ (by simp) h.1),
  oW [(11,16)] [] S rfl fun _ _ _ h _=>dv kC h.1,
  trivial⟩) ?_
 rintro g4 w4 k4 ⟨s4,-⟩ -
 have b5:=aDu b3 k4
 exact aE (bT rfl b5 s4)
theorem bd191 {g:Nat->Value} {ty:TypeId} {a:Int} (hx:ev n g x=zi a) (hy:ev n g y=.string s):aL n g ⟨dd,.build 191 #[(0,x),(1,y)],ty,pos,aft,gd⟩ w (.agg [zi a,.string s].toArray):=
 iA (ps:=[(0,x),(1,y)]) (by simp only [aC3,aDb,hx,hy];kernel_rfl)
theorem Ps (x) (w):cT 106 [.agg (dI.cells x).toArray] w fun v _=>v=.agg [zi x.job,.string x.name].toArray:=by
 refine qV (n:=8) func106 rfl ntmps106 (aA1 rfl) (Ae (rg (cO (cs:=dI.cells x) rfl rfl fun w1 B1 k1 z1 =>?_)))
 have leB1:=aDl w.heap.size
 refine eA (cs:=[aV,.string (⟨#[]⟩)]) zeroValue191 rfl fun w2 B2 k2 z2 =>?_
 have nB1_B2:=aC8 B1.lt
 have leB2:=k1.size
 have b3:=aDu k1 k2
 have B1:=B1.below k2
 refine nx (rg (sq (Bl rfl) (sq (cZ rfl (B1.cell 0 rfl)) (sq (Bv rfl) (sq (nY rfl (B1.cell 1 rfl)) (sq (bd191 rfl rfl) (bR (vs:=[zi x.job,.string x.name]) B2 sizeOf191 rfl rfl rfl rfl fun w4 B2n O4 z4 =>?_)))))))
 replace B2:=B2n
 have b5:=aS.toBelow O4 b3 b3.size leB2
 exact nx (aE (sN ⟨_,rW rfl rfl (vZ (cs:=[zi x.job,.string x.name]) isAgg191 sizeOf191 B2),_,rfl,b5,rfl⟩))
def sO (y x:dI):Bool:=(decide (x.pool=y.pool))&&(yU x.exts y.exts)
theorem LK (y x) (w) (bb) (hB:Bk bb (dI.cells y) 109 w) (hx:x.Fit) (ha:x.At w) (hy:y.Fit) (hb:y.At w):cT 163 [.agg (dI.cells x).toArray,pt bb 0] w fun v _=>v=.bool (sO y x):=by
 refine aJ (n:=16) func163 rfl ntmps163 (aA1 rfl) (rg (cO (cs:=dI.cells x) rfl rfl fun w1 B1 k1 z1 =>?_))
 have nhB_B1:=aC8 hB.lt
 have leB1:=aDl w.heap.size
 have hB:=hB.below k1
 refine bU (nx ?_)
 refine sQ (_::_::_::_::_::_::_::_::_::_::(GV (decide (x.pool=y.pool)) (vE (.bool (yU x.exts y.exts))))::_::_::[]) [(12,3)] [] rfl ⟨aA,aA,aA,aA,aA,aA,aD aA,aD aA,aD aA,aD aA,aD aA,aA,aA,trivial⟩ (by kernel_rfl) rfl rfl rfl (fun S=>⟨
  jA 2 S rfl fun q=>Ba q,
  fY [0] S rfl fun hT h=>nY h.1 ((B1.below hT).cell 3 rfl),
  jA 1 S rfl fun q=>Ba q,
  fY [2] S rfl fun hT h=>nY h.1 ((hB.below hT).cell 3 rfl),
  aP [1,3] S rfl fun h=>AO h.1 h.2.1,
  oW [(4,8)] [] S rfl fun _ _ _ h _=>dv aT h.1,
  qI 2 S rfl fun e q=>tE q,
  dM [6] S rfl fun e hT h=>uF (h.1.1 e) ((B1.below hT).cell 5 rfl),
  qI 1 S rfl fun e q=>tE q,
  dM [8] S rfl fun e hT h=>uF (h.1.1 e) ((hB.below hT).cell 5 rfl),
  oT [(7,11),(9,13)] [] S rfl i2 gU fun e _ _ hT h _=>dG e (gV (a2 (h.1.1 e) (h.2.1.1 e)) en164 (Rn x.eb y.eb x.ec y.ec x.exts y.exts _ hx.extsN (ha.exts.below (aDu k1 hT)) hx.exts hy.extsN (hb.exts.below (aDu k1 hT)) hy.exts)),
  aP [5,10] S rfl fun h=>cG h.1 (fun c=>h.2.1.1 c),
  oW [(11,15)] [] S rfl fun _ _ _ h _=>dv kC h.1,
  trivial⟩) ?_
 rintro g2 w2 k2 ⟨s3,-⟩ -
 have b3:=aDu k1 k2
 exact aE (bT rfl b3 s3)
theorem Ll (y) (v) (n c) (l:List dI) (w) (hn:n=l.length) (hN:l.length<=1000000) (hv:Rd 7 w v n c (l.flatMap dI.cells)) (hf:∀ x∈l,x.Fit) (hl:∀ x∈l,x.At w) (hy:y.Fit) (hb:y.At w):cT 107 [v,.agg (dI.cells y).toArray] w fun u _=>u=.bool (l.any (sO y)):=by
 subst hn
 obtain ⟨b,rfl,hv⟩:=eJ hv
 refine aJ (n:=8) func107 rfl ntmps107 (aA1 rfl) (rg (cO (cs:=dI.cells y) rfl rfl fun w1 B1 k1 z1 =>?_))
 have leB1:=aDl w.heap.size
 refine bU (nx (rg (aN (.slice b l.length c) rfl (sq (Aa rfl) (cE en162 (a2 rfl rfl) (Tn 163 [pt w.heap.size 0] (sO y) b c l _ ZB (by omega) (hv.below k1) (fun W x hW hx=>LK y x W _ (B1.below hW) (hf x hx) ((hl x hx).below (aDu k1 hW)) hy (hb.below (aDu k1 hW)))) ?_)))))
 rintro _ w2 k2 rfl
 have b3:=aDu k1 k2
 refine aW (.bool (l.any (sO y))) rfl (nx (aE ?_))
 refine bT (R:=fun v _=>v=.bool (l.any (sO y))) rfl b3 (aD6 (b:=(.bool (l.any (sO y)):Value)) rfl ?_)
 rfl
theorem JO (h:Rd sz w (.slice b n c) n c xs) (hk:k<=n):Rd sz w (.slice b k c) k c (xs.take (k*sz)):=by
 obtain ⟨h1,h2,h3,h4⟩:=h
 have hm:k*sz<=n*sz:=aA6 _ hk
 refine ⟨by rw [aB7,h1];omega,by omega,h3,?_⟩
 rcases h4 with ⟨e,e1,e2⟩ | ⟨g,o,e,hg,hr⟩
 ·have e3:b=none:=by injection e
  have hk0:k=0:=by omega
  subst e3 hk0
  rw [e2]
  exact .inl ⟨rfl,rfl,rfl⟩
 ·have e3:b=some ⟨g,o,none⟩:=by injection e
  subst e3
  refine .inr ⟨g,o,rfl,hg,fun j v hv=>hr j v ?_⟩
  rw [List.getElem?_take] at hv
  split at hv
  ·exact hv
  ·cases hv
theorem zN {α:Type} {f:α->List Value} {sz:Nat} (hf:∀ x,(f x).length=sz):∀ (l:List α) (k:Nat),(l.flatMap f).take (k*sz)=(l.take k).flatMap f
 | [],k=>by simp
 | x::r,0=>by simp
 | x::r,k+1=>by
  rw [List.take_succ_cons,aBu,aBu,aDn,Nat.one_mul,Nat.add_comm,<- hf x,List.take_length_add_append,hf x,zN hf r k]
def Ee (l:List dI) (p s:dI) (k:Nat):Bool:=((!(mG s))||((decide ((0:Int)<((k:Nat):Int)))&&(decide ((0:Int)<=(xO p.job p.name s.job s.name:Int)))))||((l.take k).any (sO s))
def gY (l:List dI):Bool:=(List.range l.length).all (fun k=>!Ee l (l[k - 1]!) (l[k]!) k)&&decide (l.length<=200)
theorem Mg (b) (c) (l:List dI) (w) (hN:l.length<=1000000) (hv:Rd 7 w (.slice b l.length c) l.length c (l.flatMap dI.cells)) (hf:∀ x∈l,x.Fit) (hl:∀ x∈l,x.At w):cT 29 [.slice b l.length c] w fun v _=>v=zi (cA 170 (gY l)):=by
 refine aJ (n:=44) func29 rfl ntmps29 (aA1 rfl) (rg (bU (nx (rg (aW (.func (.func 104) #[] #[]) rfl (nx (aF (rg (aN (.slice b l.length c) rfl (sq (aY underlying33 rfl) (rU (nx ?_))))))))))))
 refine bD (fun k g W=>g 8=zi ((k:Nat):Int)/\g 7=zi (((l.length:Nat)):Int)/\g 0=.slice b l.length c/\g 2=zi (0)/\g 3=.func (.func 104) #[] #[]/\g 6=.slice b l.length c/\Below w.heap.size w W/\((List.range k).all (fun k=>!Ee l (l[k - 1]!) (l[k]!) k)=true)) l.length (by omega) (fun _ _ _ h=>⟨h.1,h.2.1⟩) ⟨rfl,rfl,rfl,rfl,rfl,rfl,aDt _ _,rfl⟩ rfl rfl (fun _ _ _ _ h=>h) ?_ ?_
 ·
  rintro k g1 w1 hk ⟨s8,s7,s0,s2,s3,s6,b1,hP⟩
  obtain ⟨g,o,rfl,hg,hr⟩:=aD5 hv (aBg (aDm _) hk)
  refine rg (bI s8 (sq (bB underlying33 sizeOf109 s6 s8 hk) (sq (AB rfl (cQ dI.cells 7 dI.len hr hg b1 hk) rfl) (eA (cs:=zl6) zeroValue109 rfl fun w2 B2 k2 z2 =>?_))))
  have leB2:=b1.size
  have b3:=aDu b1 k2
  refine aW (zi (k:Nat)) rfl (bR (vs:=dI.cells l[k]) B2 sizeOf109 rfl rfl rfl rfl fun w4 B2n O4 z4 =>?_)
  replace B2:=B2n
  have b5:=aS.toBelow O4 b3 b3.size leB2
  refine nx ?_
  refine sD (_::(vE (.bool (mG l[k])))::_::_::_::_::_::_::_::_::_::_::_::(GV ((!(!(mG l[k])))&&(decide ((0:Int)<((k:Nat):Int)))) (vE (.agg [zi (l[k - 1].job),.string (l[k - 1].name)].toArray)))::_::(GV ((!(!(mG l[k])))&&(decide ((0:Int)<((k:Nat):Int)))) (vE (.agg [zi (l[k].job),.string (l[k].name)].toArray)))::(GV ((!(!(mG l[k])))&&(decide ((0:Int)<((k:Nat):Int)))) (vE (zi (xO (l[k - 1].job) (l[k - 1].name) (l[k].job) (l[k].name)))))::_::_::_::_::_::_::_::_::(GV (!((!(mG l[k]))||((decide ((0:Int)<((k:Nat):Int)))&&(decide ((0:Int)<=(xO (l[k - 1].job) (l[k - 1].name) (l[k].job) (l[k].name):Int)))))) (vE (.bool ((l.take k).any (sO l[k])))))::_::[]) [(26,39)] [0,2,3,6,7,8] rfl ⟨aA,aA,aA,aA,aD aA,aD aA,aD aA,aD aA,aD aA,aD aA,aD aA,aD aA,aD aA,aD aA,aD aA,aD aA,aD aA,aD aA,aD aA,aA,aA,aD aA,aD aA,aD aA,aD aA,aD aA,aA,trivial⟩ (by kernel_rfl) rfl rfl (fun S=>⟨
   iG 5 S rfl fun hT q=>AB q ((B2.below hT).range) rfl,
   oW [(0,13)] [] S rfl fun _ _ hT h _=>gV (a1 h.1) aAk (SZ l[k] _ (hf _ (aBz hk)) ((hl _ (aBz hk)).below (aDu b5 hT))),
   aP [1] S rfl fun h=>cJ h.1,
   oW [(2,15)] [] S rfl fun _ _ _ h _=>dv aT h.1,
   tW S rfl rfl,
   cK [4] S rfl fun e _ h=>gH (h.1.1 e) rfl,
   oF [(5,18)] [] S rfl i2 gU fun e _ _ _ h _=>dv aT (mY e (h.1.1 e)),
   AZ [] [3] S rfl i2 gU fun e _ _ _ _ q=>dv aT (mY e (q.1.trans s3)),
   AZ [] [0] S rfl i2 gU fun e _ _ _ _ q=>dv aT (mY e (q.1.trans s0)),
   AZ [] [4] S rfl i2 gU fun e _ _ _ _ q=>dv aT (mY e q.1),
   rX [9] S rfl fun e _ h=>Gz (h.1.1 e) rfl (by have:=aBp (ar e);omega),
   rX [8,10] S rfl fun e _ h=>bB underlying33 sizeOf109 (h.1.1 e) (h.2.1.1 e) (aBg (aDv _ _) hk),
   rX [11] S rfl fun e hT h=>AB (h.1.1 e) (cQ dI.cells 7 dI.len hr hg (aDu b5 hT) (aBg (aDv _ _) hk)) rfl,
   AZ [(12,25)] [] S rfl i2 gU fun e _ _ _ h _=>dG e (gV (a1 (h.1.1 e)) Wc (Ps l[k - 1] _)),
   AZ [] [5] S rfl i2 gU fun e _ _ hT _ q=>dv (AB q.1 ((B2.below hT).range) rfl) (mY e rfl),
   AZ [(14,27)] [] S rfl i2 gU fun e _ _ _ h _=>dG e (gV (a1 (h.1.1 e)) Wc (Ps l[k] _)),
   AZ [(7,20),(13,26),(15,28)] [] S rfl i2 gU fun e _ _ _ h _=>dG e (dc (caps:=[]) (h.1.1 e) (ac (a2 (h.2.1.1 e) (h.2.2.1.1 e))) Za (Gb (l[k - 1].job) (l[k - 1].name) (l[k].job) (l[k].name) _)),
   rX [16] S rfl fun e _ h=>nU (h.1.1 e) rfl,
   cK [6,17] S rfl fun e _ h=>cG (h.1.1 e) (fun c=>h.2.1.1 (aa e c)),
   aP [3,18] S rfl fun h=>dA h.1 (fun c=>h.2.1.1 (tn c)),
   oW [(19,32)] [] S rfl fun _ _ _ h _=>dv aT h.1,
   tW S rfl s0,
   tW S rfl rfl,
   cK [21,22] S rfl fun e _ h=>Rm underlying33 sizeOf109 (h.1.1 e) (h.2.1.1 e) (aC7 (aDj hk) hv.2.1),
   oF [] [5] S rfl i2 gU fun e _ _ hT _ q=>dv (AB q.1 ((B2.below hT).range) rfl) (mY e rfl),
   oF [(23,36),(24,37)] [] S rfl i2 gU fun e _ _ hT h _=>dG e (gV (a2 (h.1.1 e) (h.2.1.1 e)) Zl (Ll l[k] _ k c (l.take k) _ (by rw [aB7];omega) (by rw [aB7];omega) (by have:=JO (hv.below (aDu b5 hT)) (aDj hk);rwa [zN dI.len] at this) (fun x hx=>hf x (aA8 hx)) (fun x hx=>(hl x (aA8 hx)).below (aDu b5 hT)) (hf _ (aBz hk)) ((hl _ (aBz hk)).below (aDu b5 hT)))),
   aP [20,25] S rfl fun h=>dA h.1 (fun c=>h.2.1.1 (tn c)),
   trivial⟩) ?_
  rintro g6 w6 k6 ⟨s39,-⟩ ⟨o0,o2,o3,o6,o7,o8,-⟩
  have s0:=o0.trans s0
  have s2:=o2.trans s2
  have s3:=o3.trans s3
  have s6:=o6.trans s6
  have s7:=o7.trans s7
  have s8:=o8.trans s8
  have b7:=aDu b5 k6
  refine cd s39 (fun c8=>?_) (fun c8=>?_)
  ·
   refine rg (bU (nx (aE ?_)))
   exact bT (R:=fun v _=>v=zi (cA 170 (gY l))) rfl b7 (aD6 (b:=(zi (170):Value)) rfl (aD7 (Value.int .i64) (oH (n:=170) (b:=gY l) (Bd (bad:=Ee l ) hk c8)).symm))
  ·
   exact aG (dO ⟨⟨rfl,s7,s0,s2,s3,s6,b7,Ej (bad:=Ee l ) hk hP c8⟩,s8⟩)
 ·
  rintro g9 w9 ⟨s8,s7,s0,s2,s3,s6,b9,hP⟩
  refine aF (rg (bI s0 (sq (aY underlying33 rfl) (sq (gH rfl rfl) (nx ?_)))))
  refine cd rfl (fun c10=>?_) (fun c10=>?_)
  ·
   refine rg (bU (nx (aE ?_)))
   exact bT (R:=fun v _=>v=zi (cA 170 (gY l))) rfl b9 (aD6 (b:=(zi (170):Value)) rfl (aD7 (Value.int .i64) (oH (n:=170) (b:=gY l) (Fq c10)).symm))
  ·
   refine aG (rg (bU (nx (aE ?_))))
   exact bT (R:=fun v _=>v=zi (cA 170 (gY l))) rfl b9 (aD6 (b:=(zi (0):Value)) rfl (aD7 (Value.int .i64) (uH (n:=170) (b:=gY l) (Eg hP c10)).symm))
section
open Go.Proofs.Tryz
open Go.RowKit Go.Maps
structure mX (K:Nat->ByteArray) (x:eW):Prop where
 dirs:∀ d∈x.make,fD K d
 user:x.user.size<=1000000
 pool:x.pool.size<=1000000
 drop:∀ s∈x.drop,s.size<=1000000
 use:∀ s∈x.use,s.size<=1000000
 afterN:x.after.length<=1000000000
 makeN:x.make.length<=1000000
 dropN:x.drop.length<=1000000
 useN:x.use.length<=1000000
theorem EQ (v) (n c) (l:List ByteArray) (x) (w) (hr:Rd 1 w v n c (sv l)) (b:Bool) (hb:Hid (Lib.containsS l x=b)):
  Calls prog 189 #[v,.string x] w fun e w'=>e=.returned (.bool b)/\w'=w:=by
 obtain ⟨h1,h2,h3,⟨e,e1,e2⟩ | ⟨g,o,e,hg,hrr⟩⟩:=hr
 ·subst e e1
  have hl:l=[]:=by simpa [sv] using h1
  subst hl
  have:b=false:=by rw [<- hb.out];rfl
  subst this
  exact slices_Contains_string_empty none 0 x w
 ·subst e
  have hn:n=l.length:=by simpa [sv] using h1.symm
  subst hn
  exact Ay w g o l.length c l.length l x hrr rfl (aDl _) (by unfold maxLen at h3;omega) b (aEb (by rw [aCb];exact hb.out))
theorem SH (K:Nat->ByteArray) (d) (w) (hE:rI K w) (hd:fD K d):cT 188 [.agg (fZ d).toArray] w fun v _=>v=zi (cA 140 (lN K d)):=by
 refine (Dv K d w hE hd _ (aEb rfl)).mono ?_
 rintro e w' ⟨⟨n,rfl,h1,h2⟩,hb⟩
 refine ⟨_,rfl,hb,?_⟩
 rcases h2 with rfl | rfl
 ·rw [show lN K d=true from h1];rfl
 ·rw [show lN K d=false from h1];rfl
theorem KE {α:Type} {f:α->ByteArray} {l:List α} (hk:k<l.length):sv ((l.take k).map f)++[.string (f l[k])]=sv ((l.take (k+1)).map f):=by
 unfold sv;rw [aAr hk,aCo,aCo];rfl
theorem JZ {α:Type} {p:α->Bool} {l:List α} (hk:k<l.length) (h:(l.take k).all (fun d=>!p d)=true) (h2:p l[k]=false):(l.take (k+1)).all (fun d=>!p d)=true:=by
 rw [aAr hk,aCs,h];simp [h2]
theorem JT {α:Type} {p:α->Bool} {l:List α} {k:Nat} (hk:k<l.length) (h2:p l[k]=true):l.all (fun d=>!p d)=false:=by
 rw [List.all_eq_false];exact ⟨l[k],aBz hk,by simp [h2]⟩
def yY (K:Nat->ByteArray) (x:eW) (d:dN):Bool:=((!decide (((d.kind:Int):Int)=(4:Int)))||(!decide ((cA 140 (lN K d):Int)=(0:Int))))||(Lib.containsS x.use d.name)
def sK (x:eW) (p:Int × Bool) (k:Nat):Bool:=(!(cV p.1 (1) (1073741824)))||((x.after.take k).any (fun o=>decide (o.1=(p).1)))
def Be (x:eW):Bool:=((((((((((!(dK (x.user).data.toList))||(!(cV x.nodes (1) (64))))||(!(cV x.wall (1) (1048576))))||(!(cV x.qos (0) (9))))||(decide ((8:Int)<(((x.after.length:Nat):Int):Int))))||(!((((decide ((0:Int)<(x.cap:Int)))&&(decide ((x.cap:Int)<=(1099511627776:Int))))&&(dK (x.pool).data.toList))||((decide ((x.cap:Int)=(0:Int)))&&(decide (x.pool=(⟨#[]⟩)))))))||(!(cV x.inn (0) x.cap)))||(!(cV x.out (0) x.cap)))||(!(iR (x.make.map dN.name))))||(!(iR x.drop)))||(!(iR x.use))
def bL (K:Nat->ByteArray) (x:eW):Bool:=x.make.all (fun d=>!yY K x d)&&((List.range x.after.length).all (fun k=>!sK x (x.after[k]!) k)&&!Be x)
theorem NT {K:Nat->ByteArray} {x:eW} {k:Nat} (hk:k<x.make.length) (h:yY K x x.make[k]=true):bL K x=false:=by unfold bL;rw [JT hk h];rfl
theorem Oe {K:Nat->ByteArray} {x:eW} (hk:k<x.after.length) (h:sK x x.after[k] k=true):bL K x=false:=by
 unfold bL;rw [IV hk (by show (!sK x (x.after[k]!) k)=false;rw [iE hk,h];rfl)];simp
theorem OR {K:Nat->ByteArray} {x:eW} (h:Be x=true):bL K x=false:=by unfold bL;rw [h];simp
theorem Qo {K:Nat->ByteArray} {x:eW} (h1:x.make.all (fun d=>!yY K x d)=true) (h2:(List.range x.after.length).all (fun k=>!sK x (x.after[k]!) k)=true) (h:Be x=false):bL K x=true:=by unfold bL;rw [h1,h2,h];rfl
theorem wE (K:Nat->ByteArray) (x) (w) (hE:rI K w) (ha:x.At w) (hx:mX K x.c):cT 137 [.agg (bS.cells x).toArray] w fun v _=>v=zi (cA 150 (bL K x.c)):=by
 refine aJ (n:=153) func137 rfl ntmps137 (aA1 rfl) (rg (cO (cs:=bS.cells x) rfl rfl fun w1 B1 k1 z1 =>?_))
 have leB1:=aDl w.heap.size
 refine bU (nx (rg (aW (.func (.func 187) #[] #[]) rfl (nx (rg (bU (nx (aF (rg (sq (Fj rfl) (sq (WN rfl (B1.cell 9 rfl)) (sq (aY underlying94 rfl) ?_))))))))))))
 refine rU (nx ?_)
 have hlb:=B1.lt
 refine bD (fun k g W=>∃ vn:Value,g 13=zi ((k:Nat):Int)/\g 12=zi (((x.c.make.length:Nat)):Int)/\g 1=pt w.heap.size (0)/\g 2=zi (0)/\g 3=.func (.func 187) #[] #[]/\g 4=vn/\g 11=.slice x.mb x.c.make.length x.mc/\Bk w.heap.size (bS.cells x) 97 W/\Below w1.heap.size w1 W/\W.ownsRow w1.heap.size 9 1 vn k (sv ((x.c.make.take k).map dN.name))/\Below w.heap.size w W/\((x.c.make.take k).all (fun d=>!yY K x.c d)=true)) x.c.make.length (by have:=hx.makeN;omega) (fun _ _ _ ⟨vn,h⟩=>⟨h.1,h.2.1⟩) ⟨cP,rfl,rfl,rfl,rfl,rfl,rfl,rfl,B1,aDt _ _,fL _ _ _ _,k1,rfl⟩ rfl rfl (fun _ _ _ _ h=>h) ?_ ?_
 ·
  rintro k g2 w2 hk ⟨vn,s13,s12,s1,s2,s3,s4,s11,B1,b2_w1,hO,b2,hP⟩
  have lwO2:∀ i,Value.ownBlock vn=some i->w.heap.size<=i:=fun i hi=>aC7 k1.size (aM hO i hi)
  have neO2_B1:∀ i,Value.ownBlock vn=some i->i≠w.heap.size:=fun i hi=>by have:=aM hO i hi;have:=hlb;omega
  have lbO2:=aM hO
  obtain ⟨g,o,hge,hg,hr⟩:=aD5 ha.make (aBg (aDm _) hk)
  have s11b:=s11
  rw [hge] at s11b
  refine rg (sq (bB underlying94 sizeOf220 s11b s13 hk) (sq (uI rfl (cQ fZ 5 fQ hr hg b2 hk) rfl) (eA (cs:=[.int .u8 (0),.string (⟨#[]⟩),.string (⟨#[]⟩),aV,.bool false]) zeroValue220 rfl fun w3 B3 k3 z3 =>?_)))
  have nB1_B3:=aC8 B1.lt
  have nOvn_B3:∀ i,Value.ownBlock vn=some i->i≠w2.heap.size:=fun i hi=>aC8 (bA hO i hi)
  have leB3:=b2.size
  have leB3_w1:=b2_w1.size
  have b4:=aDu b2 k3
  have B1:=B1.below k3
  have hO:=bE hO k3
  have b5:=aDu b2_w1 k3
  refine bR (vs:=fZ x.c.make[k]) B3 sizeOf220 rfl rfl rfl rfl fun w6 B3n O6 z6 =>?_
  replace B3:=B3n
  have b7:=aS.toBelow O6 b4 b4.size leB3
  have B1:=B1.only O6 nB1_B3
  have hO:=eF hO O6 nOvn_B3
  have b8:=aS.toBelow O6 b5 b5.size leB3_w1
  refine nx (aF ?_)
  refine sQ (_::_::_::_::_::(GV (!(!decide (((x.c.make[k].kind:Int):Int)=(4:Int)))) (vE (zi (cA 140 (lN K x.c.make[k])))))::_::_::_::_::_::_::_::(GV (!((!decide (((x.c.make[k].kind:Int):Int)=(4:Int)))||(!decide ((cA 140 (lN K x.c.make[k]):Int)=(0:Int))))) (vE (.bool (Lib.containsS x.c.use x.c.make[k].name))))::_::[]) [(14,31)] [1,2,3,4,6,11,12,13] rfl ⟨aA,aA,aA,aA,aD aA,aD aA,aD aA,aA,aA,aD aA,aD aA,aD aA,aD aA,aD aA,aA,trivial⟩ (by kernel_rfl) rfl rfl rfl (fun Sd=>⟨
   jA 6 Sd rfl fun q=>xL q,
   fY [0] Sd rfl fun hT h=>Nr h.1 ((B3.below hT).cell 0 rfl),
   aP [1] Sd rfl fun h=>gC h.1 rfl,
   oW [(2,19)] [] Sd rfl fun _ _ _ h _=>dv aT h.1,
   oF [] [6] Sd rfl i2 gU fun e _ _ hT _ q=>dv (uI q.1 ((B3.below hT).range) rfl) (mY e rfl),
   oF [(4,21)] [] Sd rfl i2 gU fun e _ _ hT h _=>dG e (gV (a1 (h.1.1 e)) en188 (SH K x.c.make[k] _ (hE.below (aDu b7 hT)) (hx.dirs _ (aBz hk)))),
   cK [5] Sd rfl fun e _ h=>gC (h.1.1 e) rfl,
   aP [3,6] Sd rfl fun h=>dA h.1 (fun c=>h.2.1.1 (tn c)),
   oW [(7,24)] [] Sd rfl fun _ _ _ h _=>dv aT h.1,
   fW 1 Sd rfl fun e q=>yF (q.trans s1),
   cK [9] Sd rfl fun e hT h=>It (h.1.1 e) ((B1.below hT).cell 11 rfl),
   fW 6 Sd rfl fun e q=>Br q,
   cK [11] Sd rfl fun e hT h=>nY (h.1.1 e) ((B3.below hT).cell 1 rfl),
   oF [(10,27),(12,29)] [] Sd rfl i2 gU fun e _ _ hT h _=>dG e (gV (a2 (h.1.1 e) (h.2.1.1 e)) en189 (Dc (EQ _ _ _ x.c.use x.c.make[k].name _ (ha.use.below (aDu b7 hT)) _ (aEb rfl)))),
   aP [8,13] Sd rfl fun h=>dA h.1 (fun c=>h.2.1.1 (tn c)),
   trivial⟩) ?_
  rintro g9 w9 k9 ⟨s31,-⟩ ⟨o1,o2,o3,o4,o6,o11,o12,o13,-⟩
  have s1:=o1.trans s1
  have s2:=o2.trans s2
  have s3:=o3.trans s3
  have s4:=o4.trans s4
  have s6:g9 6=pt w2.heap.size (0):=o6.trans rfl
  have s11:g9 11=.slice (some ⟨g,o,none⟩) x.c.make.length x.mc:=o11.trans s11b
  have s12:=o12.trans s12
  have s13:=o13.trans s13
  have b10:=aDu b7 k9
  have B1:=B1.below k9
  have B3:=B3.below k9
  have hO:=bE hO k9
  have b11:=aDu b8 k9
  refine cd s31 (fun c12=>?_) (fun c12=>?_)
  ·
   refine rg (bU (nx (aE ?_)))
   exact bT (R:=fun v _=>v=zi (cA 150 (bL K x.c))) rfl b10 (aD6 (b:=(zi (150):Value)) rfl (aD7 (Value.int .i64) (oH (n:=150) (b:=bL K x.c) (NT hk c12)).symm))
  ·
   refine aG (eO (bI s4 (sq (Br s6) (sq (nY rfl (B3.cell 1 rfl)) (EW rfl fun w13 B13 k13 z13 =>?_)))))
   have nB1_B13:=aC8 B1.lt
   have nB3_B13:=aC8 B3.lt
   have leB13:=b10.size
   have leB13_w1:=b11.size
   have b14:=aDu b10 k13
   have B1:=B1.below k13
   have hO:=bE hO k13
   have b15:=aDu b11 k13
   refine xZ (m:=1) (sz:=1) underlying95 oB rfl (aA1 rfl) rfl hO rfl (news:=[.string (x.c.make[k].name)]) rfl B13.range rfl (by simp only [maxLen];have:=hx.makeN;omega) (by have:=hx.makeN;omega) b15.size fun v16 w16 hw16 k16 ha16 =>?_
   have B1:=B1.km k16 (fun e=>neO2_B1 _ e rfl)
   have b17:=aDs k16 b14 b14.size (fun i hi=>lwO2 i hi)
   have b19:=aDs k16 b15 b15.size (fun i hi=>lbO2 i hi)
   exact aW v16 rfl (nl (dO ⟨⟨v16,rfl,s12,s1,s2,s3,rfl,s11.trans (by rw [hge]),B1,b19,(by rw [<- KE hk];exact hw16),b17,JZ hk hP c12⟩,s13⟩))
 ·
  rintro g20 w20 ⟨vn,s13,s12,s1,s2,s3,s4,s11,B1,b20_w1,hO,FC,hP⟩
  have neO20_B1:∀ i,Value.ownBlock vn=some i->i≠w.heap.size:=fun i hi=>by have:=aM hO i hi;have:=hlb;omega
  rw [aCb] at hO hP
  obtain ⟨bn,cn,rfl,hnm⟩:=eG hO
  have hmake:=hP
  refine aF (rg (sq (vL s1) (sq (MS rfl (B1.cell 4 rfl)) (sq (aY underlying93 rfl) (rU (nx ?_))))))
  refine bD (fun k g W=>g 41=zi ((k:Nat):Int)/\g 40=zi (((x.c.after.length:Nat)):Int)/\g 1=pt w.heap.size (0)/\g 2=zi (0)/\g 3=.func (.func 187) #[] #[]/\g 4=.slice bn x.c.make.length cn/\g 39=.slice x.ab x.c.after.length x.ac/\Bk w.heap.size (bS.cells x) 97 W/\Below w20.heap.size w20 W/\Below w.heap.size w W/\((List.range k).all (fun k=>!sK x.c (x.c.after[k]!) k)=true)) x.c.after.length (by have:=hx.afterN;omega) (fun _ _ _ h=>⟨h.1,h.2.1⟩) ⟨rfl,rfl,s1,s2,s3,s4,rfl,B1,aDt _ _,FC,rfl⟩ rfl rfl (fun _ _ _ _ h=>h) ?_ ?_
  ·
   rintro k g21 w21 hk ⟨s41,s40,s1,s2,s3,s4,s39,B1,b21_w20,b21,hP⟩
   have htk:(x.c.after.take k).length=k:=by rw [aB7];omega
   obtain ⟨gd,od,hge,hg,hr⟩:=aD5 ha.after (aBg (aDm _) hk)
   have ha2:=ha.after
   rw [hge] at ha2
   have s39b:=s39
   rw [hge] at s39b
   skip
   refine rg (bI s41 (sq (bB underlying93 sizeOf245 s39b s41 hk) (sq (Ro rfl (cQ nD 2 wW hr hg b21 hk) rfl) (eA (cs:=[aV,.bool false]) zeroValue245 rfl fun w22 B22 k22 z22 =>?_))))
   have nB1_B22:=aC8 B1.lt
   have leB22:=b21.size
   have leB22_w20:=b21_w20.size
   have b23:=aDu b21 k22
   have B1:=B1.below k22
   have b24:=aDu b21_w20 k22
   refine aW (zi (k:Nat)) rfl (bR (vs:=nD x.c.after[k]) B22 sizeOf245 rfl rfl rfl rfl fun w25 B22n O25 z25 =>?_)
   replace B22:=B22n
   have b26:=aS.toBelow O25 b23 b23.size leB22
   have B1:=B1.only O25 nB1_B22
   have b27:=aS.toBelow O25 b24 b24.size leB22_w20
   refine nx ?_
   refine sQ (_::_::_::(vE (.bool (cV (x.c.after[k].1) (1) (1073741824))))::_::_::_::_::_::_::_::(GV (!(!(cV (x.c.after[k].1) (1) (1073741824)))) (vE (.bool ((x.c.after.take k).any (fun o=>decide (o.1=(x.c.after[k]).1))))))::_::[]) [(12,58)] [1,2,3,4,39,40,41] rfl ⟨aA,aA,aA,aA,aA,aA,aD aA,aD aA,aD aA,aD aA,aD aA,aD aA,aA,trivial⟩ (by kernel_rfl) rfl rfl rfl (fun Sd=>⟨
    bF Sd rfl s3,
    jA 8 Sd rfl fun q=>Ef q,
    fY [1] Sd rfl fun hT h=>cZ h.1 ((B22.below hT).cell 0 rfl),
    oW [(0,46),(2,48)] [] Sd rfl fun _ _ _ h _=>dc (caps:=[]) h.1 (ac (a3 h.2.1 rfl rfl)) Du (Dc (mI (x.c.after[k].1) (1) (1073741824) _)),
    aP [3] Sd rfl fun h=>cJ h.1,
    oW [(4,50)] [] Sd rfl fun _ _ _ h _=>dv aT h.1,
    fW 1 Sd rfl fun e q=>vL (q.trans s1),
    cK [6] Sd rfl fun e hT h=>MS (h.1.1 e) ((B1.below hT).cell 4 rfl),
    tW Sd rfl rfl,
    cK [7,8] Sd rfl fun e _ h=>Rm underlying93 sizeOf245 (h.1.1 e) (h.2.1.1 e) (aC7 (aDj hk) ha.after.2.1),
    fW 8 Sd rfl fun e q=>Aa q,
    oF [(9,55),(10,56)] [] Sd rfl i2 gU fun e _ _ hT h _=>dG e (gV (a2 (h.1.1 e) (h.2.1.1 e)) Wo (show cT 152 _ _ _ from (by have hh:=KD 190 [pt w21.heap.size 0] (fun o=>decide (o.1=(x.c.after[k]).1)) x.ab x.ac (x.c.after.take k) _ en190 (by have:=hx.afterN;rw [htk];omega) (by have hh:=JO (ha.after.below (aDu b26 hT)) (aDj hk);rw [zN wW] at hh;rw [htk];exact hh) (fun W o hW _=>oM (SU o x.c.after[k] _ W (((B22.below hT).below hW).cell 0 rfl)));rw [htk] at hh;exact hh))),
    aP [5,11] Sd rfl fun h=>dA h.1 (fun c=>h.2.1.1 (tn c)),
    trivial⟩) ?_
   rintro g28 w28 k28 ⟨s58,-⟩ ⟨o1,o2,o3,o4,o39,o40,o41,-⟩
   have s1:=o1.trans s1
   have s2:=o2.trans s2
   have s3:=o3.trans s3
   have s4:=o4.trans s4
   have s39:g28 39=.slice (some ⟨gd,od,none⟩) x.c.after.length x.ac:=o39.trans s39b
   have s40:=o40.trans s40
   have s41:=o41.trans s41
   have b29:=aDu b26 k28
   have B1:=B1.below k28
   have b30:=aDu b27 k28
   refine cd s58 (fun c31=>?_) (fun c31=>?_)
   ·
    refine rg (bU (nx (aE ?_)))
    exact bT (R:=fun v _=>v=zi (cA 150 (bL K x.c))) rfl b29 (aD6 (b:=(zi (150):Value)) rfl (aD7 (Value.int .i64) (oH (n:=150) (b:=bL K x.c) (Oe hk c31)).symm))
   ·
    exact aG (dO ⟨⟨rfl,s40,s1,s2,s3,s4,s39.trans (by rw [hge]),B1,b30,b29,RB hP (by show (!sK x.c (x.c.after[k]!) k)=true;rw [iE hk];exact (by rw [show sK x.c x.c.after[k] k=false from c31];rfl))⟩,s41⟩)
  ·
   rintro g32 w32 ⟨s41,s40,s1,s2,s3,s4,s39,B1,b32_w20,b32,hP⟩
   have hdep:=hP
   refine sQ (_::_::_::_::_::_::_::_::_::_::_::(GV ((decide ((0:Int)<(x.c.cap:Int)))&&(decide ((x.c.cap:Int)<=(1099511627776:Int)))) (vE (.bool (dK (x.c.pool).data.toList))))::_::_::_::_::_::_::_::_::_::_::_::_::[]) [(23,9)] [1,2,3,4] rfl ⟨aA,aA,aA,aA,aD aA,aD aA,aD aA,aA,aA,aD aA,aD aA,aD aA,aA,aA,aD aA,aD aA,aD aA,aD aA,aD aA,aD aA,aD aA,aD aA,aA,aA,trivial⟩ (by kernel_rfl) rfl rfl rfl (fun Sd=>⟨
    jA 1 Sd rfl fun q=>wH (q.trans s1),
    fY [0] Sd rfl fun hT h=>cZ h.1 ((B1.below hT).cell 5 rfl),
    aP [1] Sd rfl fun h=>gH h.1 rfl,
    oW [(2,62)] [] Sd rfl fun _ _ _ h _=>dv aT h.1,
    qI 1 Sd rfl fun e q=>wH (q.trans s1),
    dM [4] Sd rfl fun e hT h=>cZ (h.1.1 e) ((B1.below hT).cell 5 rfl),
    dM [5] Sd rfl fun e _ h=>xV (h.1.1 e) rfl,
    aP [3,6] Sd rfl fun h=>cG h.1 (fun c=>h.2.1.1 c),
    oW [(7,67)] [] Sd rfl fun _ _ _ h _=>dv aT h.1,
    qI 1 Sd rfl fun e q=>Fr (q.trans s1),
    dM [9] Sd rfl fun e hT h=>nY (h.1.1 e) ((B1.below hT).cell 8 rfl),
    oT [(10,70)] [] Sd rfl i2 gU fun e _ _ _ h _=>dG e (gV (a1 (h.1.1 e)) Jq (oM (lO x.c.pool _ (aC7 hx.pool (by decide))))),
    aP [8,11] Sd rfl fun h=>cG h.1 (fun c=>h.2.1.1 c),
    oW [(12,72)] [] Sd rfl fun _ _ _ h _=>dv aT h.1,
    fW 1 Sd rfl fun e q=>wH (q.trans s1),
    cK [14] Sd rfl fun e hT h=>cZ (h.1.1 e) ((B1.below hT).cell 5 rfl),
    cK [15] Sd rfl fun e _ h=>eZ (h.1.1 e) rfl,
    oF [(16,76)] [] Sd rfl i2 gU fun e _ _ _ h _=>dv aT (mY e (h.1.1 e)),
    AZ [] [1] Sd rfl i2 gU fun e _ _ _ _ q=>dv (Fr (q.1.trans s1)) (mY e rfl),
    rX [18] Sd rfl fun e hT h=>nY (h.1.1 e) ((B1.below hT).cell 8 rfl),
    rX [19] Sd rfl fun e _ h=>AO (h.1.1 e) rfl,
    cK [17,20] Sd rfl fun e _ h=>cG (h.1.1 e) (fun c=>h.2.1.1 (aa e c)),
    aP [13,21] Sd rfl fun h=>dA h.1 (fun c=>h.2.1.1 (tn c)),
    oW [(22,82)] [] Sd rfl fun _ _ _ h _=>dv kC h.1,
    trivial⟩) ?_
   rintro g33 w33 k33 ⟨s9,-⟩ ⟨o1,o2,o3,o4,-⟩
   have s1:=o1.trans s1
   have s3:=o3.trans s3
   have s4:=o4.trans s4
   have b34:=aDu b32 k33
   have B1:=B1.below k33
   have b35:=aDu b32_w20 k33
   refine aF ?_
   refine sQ (_::_::(vE (.bool (dK (x.c.user).data.toList)))::_::_::_::_::_::(GV (!(!(dK (x.c.user).data.toList))) (vE (.bool (cV x.c.nodes (1) (64)))))::_::_::_::_::_::_::(GV (!((!(dK (x.c.user).data.toList))||(!(cV x.c.nodes (1) (64))))) (vE (.bool (cV x.c.wall (1) (1048576)))))::_::_::_::_::_::_::(GV (!(((!(dK (x.c.user).data.toList))||(!(cV x.c.nodes (1) (64))))||(!(cV x.c.wall (1) (1048576))))) (vE (.bool (cV x.c.qos (0) (9)))))::_::_::_::_::_::_::_::_::_::_::_::_::_::_::_::_::_::_::(GV (!((((((!(dK (x.c.user).data.toList))||(!(cV x.c.nodes (1) (64))))||(!(cV x.c.wall (1) (1048576))))||(!(cV x.c.qos (0) (9))))||(decide ((8:Int)<(((x.c.after.length:Nat):Int):Int))))||(!((((decide ((0:Int)<(x.c.cap:Int)))&&(decide ((x.c.cap:Int)<=(1099511627776:Int))))&&(dK (x.c.pool).data.toList))||((decide ((x.c.cap:Int)=(0:Int)))&&(decide (x.c.pool=(⟨#[]⟩)))))))) (vE (.bool (cV x.c.inn (0) x.c.cap))))::_::_::_::_::_::_::_::_::(GV (!(((((((!(dK (x.c.user).data.toList))||(!(cV x.c.nodes (1) (64))))||(!(cV x.c.wall (1) (1048576))))||(!(cV x.c.qos (0) (9))))||(decide ((8:Int)<(((x.c.after.length:Nat):Int):Int))))||(!((((decide ((0:Int)<(x.c.cap:Int)))&&(decide ((x.c.cap:Int)<=(1099511627776:Int))))&&(dK (x.c.pool).data.toList))||((decide ((x.c.cap:Int)=(0:Int)))&&(decide (x.c.pool=(⟨#[]⟩)))))))||(!(cV x.c.inn (0) x.c.cap)))) (vE (.bool (cV x.c.out (0) x.c.cap))))::_::_::_::_::(GV (!((((((((!(dK (x.c.user).data.toList))||(!(cV x.c.nodes (1) (64))))||(!(cV x.c.wall (1) (1048576))))||(!(cV x.c.qos (0) (9))))||(decide ((8:Int)<(((x.c.after.length:Nat):Int):Int))))||(!((((decide ((0:Int)<(x.c.cap:Int)))&&(decide ((x.c.cap:Int)<=(1099511627776:Int))))&&(dK (x.c.pool).data.toList))||((decide ((x.c.cap:Int)=(0:Int)))&&(decide (x.c.pool=(⟨#[]⟩)))))))||(!(cV x.c.inn (0) x.c.cap)))||(!(cV x.c.out (0) x.c.cap)))) (vE (.bool (iR (x.c.make.map dN.name)))))::_::_::_::_::_::(GV (!(((((((((!(dK (x.c.user).data.toList))||(!(cV x.c.nodes (1) (64))))||(!(cV x.c.wall (1) (1048576))))||(!(cV x.c.qos (0) (9))))||(decide ((8:Int)<(((x.c.after.length:Nat):Int):Int))))||(!((((decide ((0:Int)<(x.c.cap:Int)))&&(decide ((x.c.cap:Int)<=(1099511627776:Int))))&&(dK (x.c.pool).data.toList))||((decide ((x.c.cap:Int)=(0:Int)))&&(decide (x.c.pool=(⟨#[]⟩)))))))||(!(cV x.c.inn (0) x.c.cap)))||(!(cV x.c.out (0) x.c.cap)))||(!(iR (x.c.make.map dN.name))))) (vE (.bool (iR x.c.drop))))::_::_::_::_::_::(GV (!((((((((((!(dK (x.c.user).data.toList))||(!(cV x.c.nodes (1) (64))))||(!(cV x.c.wall (1) (1048576))))||(!(cV x.c.qos (0) (9))))||(decide ((8:Int)<(((x.c.after.length:Nat):Int):Int))))||(!((((decide ((0:Int)<(x.c.cap:Int)))&&(decide ((x.c.cap:Int)<=(1099511627776:Int))))&&(dK (x.c.pool).data.toList))||((decide ((x.c.cap:Int)=(0:Int)))&&(decide (x.c.pool=(⟨#[]⟩)))))))||(!(cV x.c.inn (0) x.c.cap)))||(!(cV x.c.out (0) x.c.cap)))||(!(iR (x.c.make.map dN.name))))||(!(iR x.c.drop)))) (vE (.bool (iR x.c.use))))::_::_::[]) [(69,152)] [2] rfl ⟨aA,aA,aA,aA,aA,aD aA,aD aA,aD aA,aD aA,aD aA,aA,aA,aD aA,aD aA,aD aA,aD aA,aD aA,aA,aA,aD aA,aD aA,aD aA,aD aA,aD aA,aA,aA,aD aA,aD aA,aD aA,aD aA,aA,aA,aD aA,aD aA,aA,aA,aD aA,aD aA,aD aA,aD aA,aD aA,aD aA,aD aA,aA,aA,aD aA,aD aA,aD aA,aD aA,aD aA,aD aA,aD aA,aA,aA,aD aA,aD aA,aD aA,aA,aA,aD aA,aD aA,aD aA,aD aA,aA,aA,aD aA,aD aA,aD aA,aD aA,aA,trivial⟩ (by kernel_rfl) rfl rfl rfl (fun Sd=>⟨
    jA 1 Sd rfl fun q=>JF (q.trans s1),
    fY [0] Sd rfl fun hT h=>nY h.1 ((B1.below hT).cell 0 rfl),
    oW [(1,84)] [] Sd rfl fun _ _ _ h _=>gV (a1 h.1) Jq (oM (lO x.c.user _ (aC7 hx.user (by decide)))),
    aP [2] Sd rfl fun h=>cJ h.1,
    oW [(3,86)] [] Sd rfl fun _ _ _ h _=>dv aT h.1,
    tW Sd rfl s3,
    fW 1 Sd rfl fun e q=>Hz (q.trans s1),
    cK [6] Sd rfl fun e hT h=>cZ (h.1.1 e) ((B1.below hT).cell 1 rfl),
    oF [(5,88),(7,90)] [] Sd rfl i2 gU fun e _ _ _ h _=>dG e (dc (caps:=[]) (h.1.1 e) (ac (a3 (h.2.1.1 e) rfl rfl)) Du (Dc (mI x.c.nodes (1) (64) _))),
    cK [8] Sd rfl fun e _ h=>cJ (h.1.1 e),
    aP [4,9] Sd rfl fun h=>dA h.1 (fun c=>h.2.1.1 (tn c)),
    oW [(10,93)] [] Sd rfl fun _ _ _ h _=>dv aT h.1,
    tW Sd rfl s3,
    fW 1 Sd rfl fun e q=>Ig (q.trans s1),
    cK [13] Sd rfl fun e hT h=>cZ (h.1.1 e) ((B1.below hT).cell 2 rfl),
    oF [(12,95),(14,97)] [] Sd rfl i2 gU fun e _ _ _ h _=>dG e (dc (caps:=[]) (h.1.1 e) (ac (a3 (h.2.1.1 e) rfl rfl)) Du (Dc (mI x.c.wall (1) (1048576) _))),
    cK [15] Sd rfl fun e _ h=>cJ (h.1.1 e),
    aP [11,16] Sd rfl fun h=>dA h.1 (fun c=>h.2.1.1 (tn c)),
    oW [(17,100)] [] Sd rfl fun _ _ _ h _=>dv aT h.1,
    tW Sd rfl s3,
    fW 1 Sd rfl fun e q=>Ex (q.trans s1),
    cK [20] Sd rfl fun e hT h=>cZ (h.1.1 e) ((B1.below hT).cell 3 rfl),
    oF [(19,102),(21,104)] [] Sd rfl i2 gU fun e _ _ _ h _=>dG e (dc (caps:=[]) (h.1.1 e) (ac (a3 (h.2.1.1 e) rfl rfl)) Du (Dc (mI x.c.qos (0) (9) _))),
    cK [22] Sd rfl fun e _ h=>cJ (h.1.1 e),
    aP [18,23] Sd rfl fun h=>dA h.1 (fun c=>h.2.1.1 (tn c)),
    oW [(24,107)] [] Sd rfl fun _ _ _ h _=>dv aT h.1,
    fW 1 Sd rfl fun e q=>vL (q.trans s1),
    cK [26] Sd rfl fun e hT h=>MS (h.1.1 e) ((B1.below hT).cell 4 rfl),
    cK [27] Sd rfl fun e _ h=>aY underlying93 (h.1.1 e),
    cK [28] Sd rfl fun e _ h=>gH (h.1.1 e) rfl,
    aP [25,29] Sd rfl fun h=>dA h.1 (fun c=>h.2.1.1 (tn c)),
    oW [(30,113)] [] Sd rfl fun _ _ _ h _=>dv aT h.1,
    tW Sd rfl s9,
    cK [32] Sd rfl fun e _ h=>cJ (h.1.1 e),
    aP [31,33] Sd rfl fun h=>dA h.1 (fun c=>h.2.1.1 (tn c)),
    oW [(34,117)] [] Sd rfl fun _ _ _ h _=>dv aT h.1,
    tW Sd rfl s3,
    fW 1 Sd rfl fun e q=>Ih (q.trans s1),
    cK [37] Sd rfl fun e hT h=>cZ (h.1.1 e) ((B1.below hT).cell 6 rfl),
    fW 1 Sd rfl fun e q=>wH (q.trans s1),
    cK [39] Sd rfl fun e hT h=>cZ (h.1.1 e) ((B1.below hT).cell 5 rfl),
    oF [(36,119),(38,121),(40,123)] [] Sd rfl i2 gU fun e _ _ _ h _=>dG e (dc (caps:=[]) (h.1.1 e) (ac (a3 (h.2.1.1 e) rfl (h.2.2.1.1 e))) Du (Dc (mI x.c.inn (0) x.c.cap _))),
    cK [41] Sd rfl fun e _ h=>cJ (h.1.1 e),
    aP [35,42] Sd rfl fun h=>dA h.1 (fun c=>h.2.1.1 (tn c)),
    oW [(43,126)] [] Sd rfl fun _ _ _ h _=>dv aT h.1,
    tW Sd rfl s3,
    fW 1 Sd rfl fun e q=>IU (q.trans s1),
    cK [46] Sd rfl fun e hT h=>cZ (h.1.1 e) ((B1.below hT).cell 7 rfl),
    fW 1 Sd rfl fun e q=>wH (q.trans s1),
    cK [48] Sd rfl fun e hT h=>cZ (h.1.1 e) ((B1.below hT).cell 5 rfl),
    oF [(45,128),(47,130),(49,132)] [] Sd rfl i2 gU fun e _ _ _ h _=>dG e (dc (caps:=[]) (h.1.1 e) (ac (a3 (h.2.1.1 e) rfl (h.2.2.1.1 e))) Du (Dc (mI x.c.out (0) x.c.cap _))),
    cK [50] Sd rfl fun e _ h=>cJ (h.1.1 e),
    aP [44,51] Sd rfl fun h=>dA h.1 (fun c=>h.2.1.1 (tn c)),
    oW [(52,135)] [] Sd rfl fun _ _ _ h _=>dv aT h.1,
    tW Sd rfl s4,
    oF [(54,137)] [] Sd rfl i2 gU fun e _ _ hT h _=>dG e (gV (a1 (h.1.1 e)) PL (oM (Am _ _ _ (x.c.make.map dN.name) _ (hnm.below (aDu b35 hT)) (by rw [aCj];have:=hx.makeN;omega) (fun s hs=>by obtain ⟨d,hd,rfl⟩:=aDc.1 hs;exact aC7 (hx.dirs d hd).name (by decide)) _ (aEb rfl)))),
    cK [55] Sd rfl fun e _ h=>cJ (h.1.1 e),
    aP [53,56] Sd rfl fun h=>dA h.1 (fun c=>h.2.1.1 (tn c)),
    oW [(57,140)] [] Sd rfl fun _ _ _ h _=>dv aT h.1,
    fW 1 Sd rfl fun e q=>Bu (q.trans s1),
    cK [59] Sd rfl fun e hT h=>It (h.1.1 e) ((B1.below hT).cell 10 rfl),
    oF [(60,143)] [] Sd rfl i2 gU fun e _ _ hT h _=>dG e (gV (a1 (h.1.1 e)) PL (oM (Am _ _ _ x.c.drop _ (ha.drop.below (aDu b34 hT)) (by have:=hx.dropN;omega) (fun s hs=>aC7 (hx.drop s hs) (by decide)) _ (aEb rfl)))),
    cK [61] Sd rfl fun e _ h=>cJ (h.1.1 e),
    aP [58,62] Sd rfl fun h=>dA h.1 (fun c=>h.2.1.1 (tn c)),
    oW [(63,146)] [] Sd rfl fun _ _ _ h _=>dv aT h.1,
    fW 1 Sd rfl fun e q=>yF (q.trans s1),
    cK [65] Sd rfl fun e hT h=>It (h.1.1 e) ((B1.below hT).cell 11 rfl),
    oF [(66,149)] [] Sd rfl i2 gU fun e _ _ hT h _=>dG e (gV (a1 (h.1.1 e)) PL (oM (Am _ _ _ x.c.use _ (ha.use.below (aDu b34 hT)) (by have:=hx.useN;omega) (fun s hs=>aC7 (hx.use s hs) (by decide)) _ (aEb rfl)))),
    cK [67] Sd rfl fun e _ h=>cJ (h.1.1 e),
    aP [64,68] Sd rfl fun h=>dA h.1 (fun c=>h.2.1.1 (tn c)),
    trivial⟩) ?_
   rintro g36 w36 k36 ⟨s152,-⟩ ⟨o2,-⟩
   have b37:=aDu b34 k36
   refine cd s152 (fun c39=>?_) (fun c39=>?_)
   ·
    refine rg (bU (nx (aE ?_)))
    exact bT (R:=fun v _=>v=zi (cA 150 (bL K x.c))) rfl b37 (aD6 (b:=(zi (150):Value)) rfl (aD7 (Value.int .i64) (oH (n:=150) (b:=bL K x.c) (OR c39)).symm))
   ·
    refine aG (rg (bU (nx (aE ?_))))
    exact bT (R:=fun v _=>v=zi (cA 150 (bL K x.c))) rfl b37 (aD6 (b:=(zi (0):Value)) rfl (aD7 (Value.int .i64) (uH (n:=150) (b:=bL K x.c) (Qo hmake hdep c39)).symm))
end
theorem gD {a b:ByteArray} {m k:Nat} (h:a.size<=m) (h2:b.size<=k):(a++b).size<=m+k:=by rw [ByteArray.size_append];omega
theorem DL {a:ByteArray} {n:Nat} (h:a.size=n):a.size<=n:=Nat.le_of_eq h
def oU (l:List ByteArray) (sep:ByteArray):ByteArray:=⟨(Lib.join (l.map (·.data.toList)) sep.data.toList).toArray⟩
theorem GC (m:Nat):∀ (l:List ByteArray),(∀ x∈l,x.size<=m)->Lib.lens (l.map (·.data.toList))<=l.length*m
 | [],_=>by simp [Lib.lens]
 | x::r,h=>by
  have ih:=GC m r (fun y hy=>h y (aA9 _ hy))
  have:=h x aBm
  unfold Lib.lens at *
  simp only [aC3,List.sum_cons,aB3,aDi]
  have:x.data.toList.length=x.size:=by simp
  omega
theorem vQ {l:List ByteArray} {m:Nat} {c:UInt8} (h:∀ x∈l,x.size<=m):(oU l ⟨#[c]⟩).size<=l.length*(m+1):=by
 show (Lib.join (l.map (·.data.toList)) [c]).toArray.size<=_
 rw [aBr]
 have h1:=GC m l h
 match l with
 | []=>simp [Lib.join_nil]
 | x::r=>
  rw [aC3] at h1 ⊢
  rw [Lib.join_length]
  simp only [aCj,aB3,aCk,Nat.mul_add,aDn,aDi] at *
  omega
theorem GJ (v) (c) (l:List ByteArray) (ch:UInt8) (w) (m:Nat) (hr:Rd 1 w v l.length c (sv l)) (h:∀ x∈l,x.size<=m) (hm:l.length*(m+1)<=140737488355328) (hl:l.length<=140737488355328):cT 148 [v,.string ⟨#[ch]⟩] w fun u _=>u=.string (oU l ⟨#[ch]⟩):=by
 have hj:=vQ (c:=ch) h
 have hj2:(oU l ⟨#[ch]⟩).size=(Lib.join (l.map (·.data.toList)) [ch]).length:=by unfold oU;show (List.toArray _).size=_;rw [aBr]
 obtain ⟨h1,h2,h3,⟨rfl,e1,e2⟩ | ⟨g,o,rfl,hg,hrr⟩⟩:=hr
 ·have hl0:l=[]:=aAt (by simpa using e1)
  subst hl0
  have h:=strings_Join_none none 0 ⟨#[ch]⟩ w
  have e:oU ([]:List ByteArray) ⟨#[ch]⟩=⟨#[]⟩:=by unfold oU;rw [aDb,Lib.join_nil]
  rw [e]
  unfold cT
  refine aDx h ?_
  rintro e w' ⟨rfl,rfl⟩
  exact ⟨_,rfl,aDt _ _,rfl⟩
 ·exact oM (strings_Join g o c l ⟨#[ch]⟩ w (fun j x hx=>by exact hrr j _ (by unfold sv;rw [List.getElem?_map,hx];rfl)) hg hl h2 (by show (Lib.join _ [ch]).length<=_;omega))
def NI (n:Int):ByteArray:=⟨(lW n).toArray⟩
theorem iY (n:Int):(NI n).size<=13:=by
 show (lW n).toArray.size<=13
 rw [aBr];exact kZ n
theorem vM {s:ByteArray} (h:dK s.data.toList=true):s.size<=32:=by
 unfold dK at h
 simp at h
 have:s.data.size=s.size:=rfl
 omega
structure qM (K:Nat->ByteArray) (x:eW):Prop where
 user:x.user.size<=32
 afterN:x.after.length<=8
 makeN:x.make.length<=4
 dropN:x.drop.length<=4
 useN:x.use.length<=4
 nodes:1<=x.nodes/\x.nodes<=64
 wall:1<=x.wall/\x.wall<=1048576
 qos:0<=x.qos/\x.qos<=9
 cap:0<=x.cap/\x.cap<=1099511627776
 pool:x.pool.size<=32
 inn:0<=x.inn/\x.inn<=x.cap
 out:0<=x.out/\x.out<=x.cap
 after:∀ p∈x.after,1<=p.1/\p.1<=1073741824
 make:∀ d∈x.make,d.kind=4/\lN K d=true
 drop:∀ s∈x.drop,s.size<=32
 use:∀ s∈x.use,s.size<=32
theorem zB {l:List ByteArray} (h:iR l=true):l.length<=4/\∀ s∈l,s.size<=32:=by
 unfold iR at h
 simp only [aB0,aBq] at h
 refine ⟨h.2,fun s hs=>?_⟩
 obtain ⟨i,hi,rfl⟩:=aBa.1 hs
 have h1:=aB1.1 h.1 i (aCw.2 hi)
 unfold nT at h1
 simp only [aB0,List.getD_eq_getElem?_getD,List.getElem?_eq_getElem hi,Option.getD_some] at h1
 exact vM h1.1
theorem La {K:Nat->ByteArray} {x:eW} (h:bL K x=true):qM K x:=by
 unfold bL at h
 simp only [aB0,aBt] at h
 obtain ⟨h1,h2,h3⟩:=h
 unfold Be cV at h3
 simp only [aA7,aBn,aB0,aBq,decide_eq_false_iff_not,aCm] at h3
 obtain ⟨⟨⟨⟨⟨⟨⟨⟨⟨⟨hu,hn⟩,hw⟩,hq⟩,ha⟩,hb⟩,hi⟩,ho⟩,hm⟩,hd⟩,hs⟩:=h3
 have hm:=zB hm
 have hd:=zB hd
 have hs:=zB hs
 rw [aCj] at hm
 refine ⟨vM hu,by omega,hm.1,hd.1,hs.1,hn,hw,hq,?_,?_,hi,ho,?_,?_,hd.2,hs.2⟩
 ·rcases hb with hb | hb <;> omega
 ·rcases hb with hb | hb
  ·exact vM hb.2
  ·rw [hb.2];decide
 ·intro p hp
  obtain ⟨i,hi,rfl⟩:=aBa.1 hp
  have h4:=aB1.1 h2 i (aCw.2 hi)
  unfold sK cV at h4
  rw [iE hi] at h4
  simp only [aBt,aA7,aBn,aB0,aBq] at h4
  exact h4.1
 ·intro d hd
  have h4:=aB1.1 h1 d hd
  unfold yY at h4
  simp only [aBt,aA7,aBn,aBq] at h4
  exact ⟨by omega,nM (n:=140) (by decide) (by simpa using h4.1.2)⟩
def No (p:Int × Bool):ByteArray:=(bif p.2 then ⟨#[97,110,121,58]⟩ else ⟨#[111,107,58]⟩)++NI p.1
def GX (x:eW):ByteArray:=(((((⟨#[106,111,98,32,117,115,101,114,61]⟩)++x.user)++(⟨#[32,110,111,100,101,115,61]⟩))++(NI x.nodes))++(⟨#[32,119,97,108,108,61]⟩))++(NI x.wall)
theorem NK (x:eW):(((((⟨#[106,111,98,32,117,115,101,114,61]⟩)++x.user)++(⟨#[32,110,111,100,101,115,61]⟩))++(NI x.nodes))++(⟨#[32,119,97,108,108,61]⟩))++(NI x.wall)=GX x:=rfl
theorem vJ {K:Nat->ByteArray} {x:eW} (ho:qM K x):(GX x).size<=100:=aC7 (gD (gD (gD (gD (gD (DL (n:=9) rfl) ho.user) (DL (n:=7) rfl)) (iY _)) (DL (n:=6) rfl)) (iY _)) (by decide)
def oC (x:eW):ByteArray:=bif decide ((0:Int)<(x.qos:Int)) then (GX x)++((⟨#[32,113,111,115,61]⟩)++(NI x.qos)) else GX x
def pD (x:eW):ByteArray:=bif decide ((0:Int)<((x.after.length:Nat):Int)) then (oC x)++((⟨#[32,97,102,116,101,114,61]⟩)++(oU (x.after.map No) ⟨#[44]⟩)) else oC x
theorem KG (b:Bool):(bif b then (⟨#[97,110,121,58]⟩:ByteArray) else ⟨#[111,107,58]⟩).size<=4:=by cases b <;> decide
theorem Gh (p:Int × Bool):(No p).size<=17:=gD (KG _) (iY _)
theorem zF {K:Nat->ByteArray} {x:eW} (ho:qM K x):(oU (x.after.map No) ⟨#[44]⟩).size<=1000:=by
 have h:=vQ (c:=44) (l:=x.after.map No) (m:=17) (fun s hs=>by obtain ⟨q,hq,rfl⟩:=aDc.1 hs;exact Gh q)
 rw [aCj] at h
 have:=ho.afterN;omega
theorem wB {K:Nat->ByteArray} {x:eW} (ho:qM K x):(oC x).size<=200:=by
 unfold oC
 cases h:decide ((0:Int)<(x.qos:Int))
 ·exact aC7 (vJ ho) (by decide)
 ·exact aC7 (gD (vJ ho) (gD (DL (n:=5) rfl) (iY _))) (by decide)
theorem Ik {K:Nat->ByteArray} {x:eW} (ho:qM K x):(pD x).size<=2000:=by
 unfold pD
 cases h:decide ((0:Int)<((x.after.length:Nat):Int))
 ·exact aC7 (wB ho) (by decide)
 ·exact aC7 (gD (wB ho) (gD (DL (n:=7) rfl) (zF ho))) (by decide)
theorem PR (K:Nat->ByteArray) (x) (w) (hE:rI K w) (ha:x.At w) (ho:qM K x.c):cT 146 [.agg (bS.cells x).toArray] w fun v _=>v=.string (pD x.c):=by
 refine aJ (n:=57) func146 rfl ntmps146 (aA1 rfl) (rg (cO (cs:=bS.cells x) rfl rfl fun w1 B1 k1 z1 =>?_))
 have leB1:=aDl w.heap.size
 refine bU (nx ?_)
 refine sD (_::_::_::_::_::_::(vE (.string (NI x.c.nodes)))::_::_::_::_::(vE (.string (NI x.c.wall)))::_::_::[]) [(13,3)] [1,2] rfl ⟨aA,aA,aA,aA,aA,aA,aA,aA,aA,aA,aA,aA,aA,aA,trivial⟩ (by kernel_rfl) rfl rfl (fun Sd=>⟨
  oW [] [1] Sd rfl fun _ _ _ _ q=>dv (JF q.1) rfl,
  oW [(0,8)] [] Sd rfl fun _ _ hT h _=>dv (nY h.1 ((B1.below hT).cell 0 rfl)) rfl,
  oW [(1,9)] [] Sd rfl fun _ _ _ h _=>dv (pL rfl h.1 (aC7 (aCz (DL (n:=9) rfl) ho.user) (aA1 rfl))) rfl,
  oW [(2,10)] [] Sd rfl fun _ _ _ h _=>dv (pL h.1 rfl (aC7 (aCz (gD (DL (n:=9) rfl) ho.user) (DL (n:=7) rfl)) (aA1 rfl))) rfl,
  oW [] [1] Sd rfl fun _ _ _ _ q=>dv (Hz q.1) rfl,
  oW [(4,12)] [] Sd rfl fun _ _ hT h _=>dv (cZ h.1 ((B1.below hT).cell 1 rfl)) rfl,
  oW [(5,13)] [] Sd rfl fun _ _ hT h _=>gV (a1 h.1) Ki (oM (iX x.c.nodes _ (by have:=ho.nodes;omega) (by have:=ho.nodes;omega) (hE.pow.below (aDu k1 hT)))),
  oW [(3,11),(6,14)] [] Sd rfl fun _ _ _ h _=>dv (pL h.1 h.2.1 (aC7 (aCz (gD (gD (DL (n:=9) rfl) ho.user) (DL (n:=7) rfl)) (iY _)) (aA1 rfl))) rfl,
  oW [(7,15)] [] Sd rfl fun _ _ _ h _=>dv (pL h.1 rfl (aC7 (aCz (gD (gD (gD (DL (n:=9) rfl) ho.user) (DL (n:=7) rfl)) (iY _)) (DL (n:=6) rfl)) (aA1 rfl))) rfl,
  oW [] [1] Sd rfl fun _ _ _ _ q=>dv (Ig q.1) rfl,
  oW [(9,17)] [] Sd rfl fun _ _ hT h _=>dv (cZ h.1 ((B1.below hT).cell 2 rfl)) rfl,
  oW [(10,18)] [] Sd rfl fun _ _ hT h _=>gV (a1 h.1) Ki (oM (iX x.c.wall _ (by have:=ho.wall;omega) (by have:=ho.wall;omega) (hE.pow.below (aDu k1 hT)))),
  oW [(8,16),(11,19)] [] Sd rfl fun _ _ _ h _=>dv (pL h.1 h.2.1 (aC7 (aCz (gD (gD (gD (gD (DL (n:=9) rfl) ho.user) (DL (n:=7) rfl)) (iY _)) (DL (n:=6) rfl)) (iY _)) (aA1 rfl))) rfl,
  oW [(12,20)] [] Sd rfl fun _ _ _ h _=>dv kC ((h.1).trans (aD7 Value.string (NK x.c))),
  trivial⟩) ?_
 rintro g2 w2 k2 ⟨s3,-⟩ ⟨o1,o2,-⟩
 have s1:g2 1=pt w.heap.size (0):=o1.trans rfl
 have s2:g2 2=.string (⟨#[]⟩):=o2.trans rfl
 have b3:=aDu k1 k2
 have B1:=B1.below k2
 refine aF (rg (sq (Ex s1) (sq (cZ rfl (B1.cell 3 rfl)) (sq (gH rfl rfl) (nx ?_)))))
 refine Gs (fun g W=>g 1=pt w.heap.size (0)/\g 2=.string (⟨#[]⟩)/\g 3=.string (oC x.c)/\Bk w.heap.size (bS.cells x) 97 W/\Below w.heap.size w W) ?_ ?_
 ·
  refine cd rfl (fun c4=>?_) (fun c4=>?_)
  ·
   refine eO (bI s3 (sq (Ex s1) (sq (cZ rfl (B1.cell 3 rfl)) (cE Ki (a1 rfl) (oM (iX x.c.qos _ (by have:=ho.qos;omega) (by have:=ho.qos;omega) (hE.pow.below b3))) ?_))))
   rintro _ w5 k5 rfl
   have b6:=aDu b3 k5
   have B1:=B1.below k5
   exact sq (pL rfl rfl (aC7 (aCz (DL (n:=5) rfl) (iY _)) (aA1 rfl))) (sq (pL rfl rfl (aC7 (aCz (vJ ho) (gD (DL (n:=5) rfl) (iY _))) (aA1 rfl))) (aW (.string ((GX x.c)++((⟨#[32,113,111,115,61]⟩)++(NI x.c.qos)))) rfl (nl ⟨_,rfl,s1,s2,((rfl).trans (aD7 Value.string (show oC x.c=_ from xM c4).symm)),B1,b6⟩)))
  ·
   exact aG ⟨_,rfl,s1,s2,((s3).trans (aD7 Value.string (show oC x.c=_ from uP c4).symm)),B1,b3⟩
 ·
  rintro g7 w7 ⟨s1,s2,s3,B1,b7⟩
  refine rg (bU (nx (aF (rg (sq (vL s1) (sq (MS rfl (B1.cell 4 rfl)) (sq (aY underlying93 rfl) (rU (nx ?_)))))))))
  have hlb:=B1.lt
  refine bD (fun k g W=>∃ vn:Value,g 33=zi ((k:Nat):Int)/\g 32=zi (((x.c.after.length:Nat)):Int)/\g 2=.string (⟨#[]⟩)/\g 3=.string (oC x.c)/\g 4=vn/\g 31=.slice x.ab x.c.after.length x.ac/\Bk w.heap.size (bS.cells x) 97 W/\Below w7.heap.size w7 W/\W.ownsRow w7.heap.size 9 1 vn k (sv ((x.c.after.take k).map No))/\Below w.heap.size w W/\True) x.c.after.length (by have:=ho.afterN;omega) (fun _ _ _ ⟨vn,h⟩=>⟨h.1,h.2.1⟩) ⟨cP,rfl,rfl,s2,s3,rfl,rfl,B1,aDt _ _,fL _ _ _ _,b7,trivial⟩ rfl rfl (fun _ _ _ _ h=>h) ?_ ?_
  ·
   rintro k g8 w8 hk ⟨vn,s33,s32,s2,s3,s4,s31,B1,b8_w7,hO,b8,-⟩
   have lwO8:∀ i,Value.ownBlock vn=some i->w.heap.size<=i:=fun i hi=>aC7 b7.size (aM hO i hi)
   have neO8_B1:∀ i,Value.ownBlock vn=some i->i≠w.heap.size:=fun i hi=>by have:=aM hO i hi;have:=hlb;omega
   have lbO8:=aM hO
   obtain ⟨gb,o,hge,hg,hr⟩:=aD5 ha.after (aBg (aDm _) hk)
   have s31b:=s31
   rw [hge] at s31b
   refine rg (sq (bB underlying93 sizeOf245 s31b s33 hk) (sq (Ro rfl (cQ nD 2 wW hr hg b8 hk) rfl) (eA (cs:=[aV,.bool false]) zeroValue245 rfl fun w9 B9 k9 z9 =>?_)))
   have nB1_B9:=aC8 B1.lt
   have nOvn_B9:∀ i,Value.ownBlock vn=some i->i≠w8.heap.size:=fun i hi=>aC8 (bA hO i hi)
   have leB9:=b8.size
   have leB9_w7:=b8_w7.size
   have b10:=aDu b8 k9
   have B1:=B1.below k9
   have hO:=bE hO k9
   have b11:=aDu b8_w7 k9
   refine bR (vs:=nD x.c.after[k]) B9 sizeOf245 rfl rfl rfl rfl fun w12 B9n O12 z12 =>?_
   replace B9:=B9n
   have b13:=aS.toBelow O12 b10 b10.size leB9
   have B1:=B1.only O12 nB1_B9
   have hO:=eF hO O12 nOvn_B9
   have b14:=aS.toBelow O12 b11 b11.size leB9_w7
   refine nx (rg (bU (nx (aF (rg (sq (Vo rfl) (sq (DB rfl (B9.cell 1 rfl)) (nx ?_))))))))
   refine Gs (fun g W=>g 2=.string (⟨#[]⟩)/\g 3=.string (oC x.c)/\g 4=vn/\g 6=pt w8.heap.size (0)/\g 7=.string (bif x.c.after[k].2 then ⟨#[97,110,121,58]⟩ else ⟨#[111,107,58]⟩)/\g 31=.slice (some ⟨gb,o,none⟩) x.c.after.length x.ac/\g 32=zi (x.c.after.length:Nat)/\g 33=zi (k:Nat)/\W=w12) ?_ ?_
   ·
    refine cd rfl (fun c15=>?_) (fun c15=>?_)
    ·
     exact eO (bU (nl ⟨_,rfl,s2,s3,s4,rfl,((rfl).trans (aD7 Value.string (xM c15).symm)),s31b,s32,s33,rfl⟩))
    ·
     exact aG ⟨_,rfl,s2,s3,s4,rfl,((rfl).trans (aD7 Value.string (uP c15).symm)),s31b,s32,s33,rfl⟩
   ·
    rintro g16 _ ⟨s2,s3,s4,s6,s7,s31,s32,s33,rfl⟩
    refine eO (bI s4 (bI s7 (sq (Ef s6) (sq (cZ rfl (B9.cell 0 rfl)) (cE Ki (a1 rfl) (oM (iX (x.c.after[k].1) _ (by have:=(ho.after _ (aBz hk));omega) (by have:=(ho.after _ (aBz hk));omega) (hE.pow.below b13))) ?_)))))
    rintro _ w17 k17 rfl
    have b18:=aDu b13 k17
    have B1:=B1.below k17
    have B9:=B9.below k17
    have hO:=bE hO k17
    have b19:=aDu b14 k17
    refine sq (pL rfl rfl (aC7 (aCz (KG _) (iY _)) (aA1 rfl))) (EW rfl fun w20 B20 k20 z20 =>?_)
    have nB1_B20:=aC8 B1.lt
    have nB9_B20:=aC8 B9.lt
    have leB20:=b18.size
    have leB20_w7:=b19.size
    have b21:=aDu b18 k20
    have B1:=B1.below k20
    have hO:=bE hO k20
    have b22:=aDu b19 k20
    refine xZ (m:=1) (sz:=1) underlying95 oB rfl (aA1 rfl) rfl hO rfl (news:=[.string ((bif x.c.after[k].2 then ⟨#[97,110,121,58]⟩ else ⟨#[111,107,58]⟩)++(NI (x.c.after[k].1)))]) rfl B20.range rfl (by simp only [maxLen];have:=ho.afterN;omega) (by have:=ho.afterN;omega) b22.size fun v23 w23 hw23 k23 ha23 =>?_
    have B1:=B1.km k23 (fun e=>neO8_B1 _ e rfl)
    have b24:=aDs k23 b21 b21.size (fun i hi=>lwO8 i hi)
    have b26:=aDs k23 b22 b22.size (fun i hi=>lbO8 i hi)
    exact aW v23 rfl (nl (dO ⟨⟨v23,rfl,s32,s2,s3,rfl,s31.trans (by rw [hge]),B1,b26,(by rw [<- KE hk];exact hw23),b24,trivial⟩,s33⟩))
  ·
   rintro g27 w27 ⟨vn,s33,s32,s2,s3,s4,s31,B1,b27_w7,hO,b27,-⟩
   have neO27_B1:∀ i,Value.ownBlock vn=some i->i≠w.heap.size:=fun i hi=>by have:=aM hO i hi;have:=hlb;omega
   rw [aCb] at hO
   obtain ⟨bn,cn,rfl,hnm⟩:=eG hO
   refine aF (rg (bI s4 (sq (aY underlying95 rfl) (sq (gH rfl rfl) (nx ?_)))))
   refine cd rfl (fun c28=>?_) (fun c28=>?_)
   ·
    refine eO (bI s3 (bI s4 (cE VB (a2 rfl rfl) (GJ (.slice bn x.c.after.length cn) cn (x.c.after.map No) 44 _ 17 (show Rd 1 _ (.slice bn x.c.after.length cn) (x.c.after.map No).length cn (sv (x.c.after.map No)) from by rw [aCj];exact hnm.below (aDt _ _)) (fun s hs=>by obtain ⟨q,hq,rfl⟩:=aDc.1 hs;exact Gh q) (by have:=ho.afterN;rw [aCj];omega) (by have:=ho.afterN;rw [aCj];omega)) ?_)))
    rintro _ w29 k29 rfl
    have b30:=aDu b27 k29
    exact sq (pL rfl rfl (aC7 (aCz (DL (n:=7) rfl) (zF ho)) (aA1 rfl))) (sq (pL rfl rfl (aC7 (aCz (wB ho) (gD (DL (n:=7) rfl) (zF ho))) (aA1 rfl))) (aW (.string ((oC x.c)++((⟨#[32,97,102,116,101,114,61]⟩)++(oU (x.c.after.map No) ⟨#[44]⟩)))) rfl (nl (rg (aN (.string ((oC x.c)++((⟨#[32,97,102,116,101,114,61]⟩)++(oU (x.c.after.map No) ⟨#[44]⟩)))) rfl (aW (.string ((oC x.c)++((⟨#[32,97,102,116,101,114,61]⟩)++(oU (x.c.after.map No) ⟨#[44]⟩)))) rfl (nx (aE (bT rfl b30 (aD6 (b:=(.string ((oC x.c)++((⟨#[32,97,102,116,101,114,61]⟩)++(oU (x.c.after.map No) ⟨#[44]⟩))):Value)) rfl (aD7 Value.string (show pD x.c=_ from xM c28).symm)))))))))))
   ·
    exact aG (rg (bI s3 (aW (.string (oC x.c)) rfl (nx (aE (bT rfl b27 (aD6 (b:=(.string (oC x.c):Value)) rfl (aD7 Value.string (show pD x.c=_ from uP c28).symm))))))))
theorem MF (f) (caps:List Value) (p:dN->Bool) (b) (c) (l:List dN) (w) (ef:EN f) (hN:l.length<9223372036854775807) (hv:Rd 5 w (.slice b l.length c) l.length c (l.flatMap fZ)) (hp:∀ W x,Below w.heap.size w W->x∈l->cT f ([.agg (fZ x).toArray]++caps) W fun v _=>v=.bool (p x)):cT 195 [.slice b l.length c,.func (.func f) #[] caps.toArray] w fun v _=>v=zi (gG p l):=by
 refine aJ (n:=19) func195 rfl ntmps195 (aA1 rfl) (rg (bU (nx (aF (rg (aN (.slice b l.length c) rfl (sq (aY underlying94 rfl) (rU (nx ?_)))))))))
 refine bD (fun k g W=>g 8=zi ((k:Nat):Int)/\g 7=zi (((l.length:Nat)):Int)/\g 0=.slice b l.length c/\g 1=.func (.func f) #[] (caps).toArray/\g 4=zi (0)/\Below w.heap.size w W/\((l.take k).any p=false)) l.length hN (fun _ _ _ h=>⟨h.1,h.2.1⟩) ⟨rfl,rfl,rfl,rfl,rfl,aDt _ _,rfl⟩ rfl rfl (fun _ _ _ _ h=>h) ?_ ?_
 ·
  rintro k g1 w1 hk ⟨s8,s7,s0,s1,s4,b1,hP⟩
  obtain ⟨g,o,rfl,hg,hr⟩:=aD5 hv (aBg (aDm _) hk)
  refine rg (bI s8 (aW (zi (k:Nat)) rfl (nx (rg (bI s1 (bI s0 (aN (zi (k:Nat)) rfl (sq (bB underlying94 sizeOf220 rfl rfl hk) (sq (uI rfl (cQ fZ 5 fQ hr hg b1 hk) rfl) (RC (caps:=caps) ef rfl (ac (a1 rfl)) (hp _ _ b1 (aBz hk)) ?_))))))))))
  rintro _ w2 k2 rfl
  have b3:=aDu b1 k2
  refine nx ?_
  refine cd rfl (fun c4=>?_) (fun c4=>?_)
  ·
   refine rg (aN (zi (k:Nat)) rfl (aW (zi (k:Nat)) rfl (nx (aE ?_))))
   refine bT (R:=fun v _=>v=zi (gG p l)) rfl b3 (aD6 (b:=(zi (k:Nat):Value)) rfl ?_)
   rw [lP hk hP c4]
  ·
   exact aG (dO ⟨⟨rfl,s7,s0,s1,s4,b3,rH hk hP c4⟩,s8⟩)
 ·
  rintro g5 w5 ⟨s8,s7,s0,s1,s4,b5,hP⟩
  refine rg (aW (zi (-1)) rfl (nx (aE ?_)))
  refine bT (R:=fun v _=>v=zi (gG p l)) rfl b5 (aD6 (b:=(zi (-1):Value)) rfl ?_)
  rw [mR (by rw [<- aCb (l:=l)];exact hP)]
def lZ (d:dN):Bool:=decide (d.size=0)
theorem He (d) (w):cT 145 [.agg (fZ d).toArray] w fun v _=>v=.bool (lZ d):=by
 refine aJ (n:=6) func145 rfl ntmps145 (aA1 rfl) (rg (cO (cs:=fZ d) rfl rfl fun w1 B1 k1 z1 =>?_))
 have leB1:=aDl w.heap.size
 exact bU (nx (rg (sq (Bc rfl) (sq (cZ rfl (B1.cell 3 rfl)) (sq (eZ rfl rfl) (aW (.bool (decide ((d.size:Int)=(0:Int)))) rfl (nx (aE (bT rfl k1 rfl)))))))))
def gS (l:List dN):List dN:=l.filter fun d=>!lZ d
theorem zD {α:Type} {p:α->Bool}:∀ {l:List α},l.any p=true->∃ k,∃ hk:k<l.length,p l[k]=true/\(l.take k).any p=false
 | x::r,h=>by
  by_cases hx:p x=true
  ·exact ⟨0,by simp,hx,by simp⟩
  ·have hx:p x=false:=by simpa using hx
   rw [List.any_cons,hx,Bool.false_or] at h
   obtain ⟨k,hk,h1,h2⟩:=zD h
   exact ⟨k+1,by simpa using hk,by simpa using h1,by simp [hx,h2]⟩
theorem NP {l:List dN} (h:decide (gG lZ l=(-1:Int))=false):∃ k,gG lZ l=((k:Nat):Int)/\k<l.length/\(l.take k).any lZ=false/\∃ hk:k<l.length,lZ l[k]=true:=by
 by_cases ha:l.any lZ=false
 ·have:=mR ha
  simp [this] at h
 ·have ha:l.any lZ=true:=by simpa using ha
  obtain ⟨k,hk,hz,hf⟩:=zD ha
  exact ⟨k,lP hk hf hz,hk,hf,hk,hz⟩
theorem Gj {l:List dN} (h:l.any lZ=false):gS l=l:=by
 unfold gS
 exact List.filter_eq_self.2 fun d hd=>by
  have:=List.any_eq_false.1 h d hd
  simpa using this
theorem Tw {l:List dN} (h:decide (gG lZ l=(-1:Int))=true):gS l=l:=by
 refine Gj ?_
 rw [<- Bool.not_eq_true]
 intro ha
 obtain ⟨k,hk,hz,hf⟩:=zD ha
 have:=lP hk hf hz
 have h2:=aBp h
 omega
theorem EE {l:List dN} (hj:j<l.length):gS (l.take (j+1))=gS (l.take j)++(if lZ l[j]=true then [] else [l[j]]):=by
 unfold gS
 rw [aAr hj,aBl]
 congr 1
 by_cases h:lZ l[j]=true <;> simp [h]
theorem ER: ∀ (vs cs:List Value) (k:Nat),k+vs.length<=cs.length->qZ cs k vs=cs.take k++vs++cs.drop (k+vs.length)
 | [],cs,k,h=>by simp [qZ]
 | v::r,cs,k,h=>by
  simp only [aB3] at h
  have hk:k<cs.length:=by omega
  have hl:(cs.take k).length=k:=by rw [aB7];omega
  rw [qZ,ER r (cs.set k v) (k+1) (by rw [aCq];omega),aAq,aEc hk]
  have h1:(cs.take k++v::cs.drop (k+1)).take (k+1)=cs.take k++[v]:=by
   rw [List.take_append,hl,aAz (by omega),show k+1 - k=1 from by omega];rfl
  have h2:(cs.take k++v::cs.drop (k+1)).drop (k+1+r.length)=cs.drop (k+(r.length+1)):=by
   rw [List.drop_append,hl,List.drop_of_length_le (by omega),List.nil_append,show k+1+r.length - k=r.length+1 from by omega,List.drop_succ_cons,List.drop_drop]
   congr 1;omega
  rw [h1,h2,aB3];simp
theorem zE {α:Type} (f:α->List Value) (sz:Nat) (hf:∀ x,(f x).length=sz) (m:List α) (i) (hi:i<=m.length):(m.flatMap f).take (i*sz)=(m.take i).flatMap f/\(m.flatMap f).drop (i*sz)=(m.drop i).flatMap f:=by
 have hl:∀ (q:List α),(q.flatMap f).length=q.length*sz:=fun q=>by
  induction q with
  | nil=>simp
  | cons x r ih=>rw [aBu,aBh,hf,ih,aB3,aDi];omega
 have h1:((m.take i).flatMap f).length=i*sz:=by rw [hl,aB7,aCt hi]
 have h2:m.flatMap f=(m.take i).flatMap f++(m.drop i).flatMap f:=by rw [<- aBb,aA2]
 rw [h2]
 exact ⟨List.take_left' h1,List.drop_left' h1⟩
theorem Nn {α:Type} (f:α->List Value) (sz:Nat) (hf:∀ x,(f x).length=sz) (m:List α) (i) (x:α) (hi:i<m.length):qZ (m.flatMap f) (i*sz) (f x)=(m.set i x).flatMap f:=by
 have hl:∀ (q:List α),(q.flatMap f).length=q.length*sz:=fun q=>by
  induction q with
  | nil=>simp
  | cons x r ih=>rw [aBu,aBh,hf,ih,aB3,aDi];omega
 have h1:(i+1)*sz<=m.length*sz:=aA6 _ hi
 rw [aDi] at h1
 rw [ER _ _ _ (by rw [hf,hl];omega),hf,(zE f sz hf m i (by omega)).1,<- aDi,(zE f sz hf m (i+1) (by omega)).2,aAq,aEc hi,aBb,aBu,aBs]
section
variable {r:Option Nat} {n:Nat} {ds:List Deferred} {g:Nat->Value} {w:World} {Q:Exit->Act->World->Prop} {l:List Oper} {ops:Array Oper} {dd:Option Tmp} {ty:TypeId} {pos:String} {aft:Array Edge} {gd:Option (Nat × Bool)} {x y:Operand} {t:TypeId}
theorem r_slL {b m c k:Nat} (hu:prog.underlying t=some (.slice e)) (hs:∀ w,(sizeOf e).run prog w=.ok sz w) (hx:ev n g x=.slice (some ⟨b,0,none⟩) m c) (hy:ev n g y=zi (k:Int)) (hk:k<m) (hm:m<=c):
  aL n g ⟨dd,.slice t x (some y) none none,ty,pos,aft,gd⟩ w (.slice (some ⟨b,k*sz,none⟩) (m - k) (c - k)):=by
 unfold aL execOp
 have h0:(0:Int)<=(k:Int)/\(k:Int)<=(m:Int):=by omega
 have h1:k<=m:=by omega
 have h2:¬ c - k=0:=by omega
 simp [hx,hy,Instr.sliceAt,Instr.slice,run_underlying hu,Instr.sliceBounds,Instr.sliceBound,asIntOf,h0,h1,hs,hm,h2,Addr.add]
 have h3:¬ c=k:=by omega
 rw [aEd h3]
 by_cases h4:k*sz=0 <;> simp [h4]
theorem Va {b o m c sz:Nat} (hu:prog.underlying t=some (.slice e)) (hz:∀ w,(zeroValue e).run prog w=.ok z w) (hzs:z.cells.size=sz) (hz1:∀ v∈z.cells.toList,v.oneCell'=true) (hB:Bk b cs td w) (hx:ev n g x=.slice (some ⟨b,o,none⟩) m c) (hm:0<m) (ho:o+m*sz<=cs.length)
  (h:∀ w' zs,zs.length=m*sz->Bk b (qZ cs o zs) td w'->aS b w w'->w'.heap.size=w.heap.size->dY r ops Q l (fr n ds g) w'):dY r ops Q (⟨none,.call ⟨.builtin .clear,#[x],#[t]⟩,ty,pos,aft,none⟩::l) (fr n ds g) w:=by
 refine eM rfl fun K hK=>?_
 have hl:(Builtin.zeroCells z.cells m).toList.length=m*sz:=by simp [Builtin.zeroCells,hzs]
 have h1:(Builtin.zeroCells z.cells m).toList.all (·.oneCell')=true:=by
  rw [aB1]
  intro v hv
  simp only [Builtin.zeroCells,Array.toList_map,aDc] at hv
  obtain ⟨i,hi,rfl⟩:=hv
  have hi:i<m*sz:=by rw [<- hzs];simpa using hi
  have hsz:0<sz:=by rcases aBk sz with e | e;subst e;simp at hi;exact e
  have hi2:i % z.cells.size<z.cells.size:=Nat.mod_lt _ (by omega)
  rw [getElem!_pos z.cells _ hi2]
  exact hz1 _ (by simp)
 obtain ⟨w',hr',hB',hO,hsz⟩:=gJ o _ 0 cs w hB h1 (by omega)
 obtain ⟨q,rfl⟩:∃ q,m=q+1:=⟨m - 1,by omega⟩
 have hr:(execOp (ev n g) ⟨none,.call ⟨.builtin .clear,#[x],#[t]⟩,ty,pos,aft,none⟩).run prog w=.ok (.value (.tuple #[])) w':=by
  have hcl:∀ ty,(Builtin.clear_ #[t] ty #[.slice (some ⟨b,o,none⟩) (q+1) c]).run prog w=.ok (.tuple #[]) w':=fun ty=>by simp [Builtin.clear_,run_underlying hu,hz,hr']
  unfold execOp
  simp [resolve, invoke, hx, hcl, go_sem]
 exact iC (by rw [bV];exact hr) (hK _ _ (h _ _ hl hB' hO hsz))
end
theorem Bk.row {α:Type} {f:α->List Value} {l:List α} (hf:∀ x,(f x).length=sz) (hl:l.length<=maxLen) (h:Bk b (l.flatMap f) t w):Rd sz w (.slice (some ⟨b,0,none⟩) l.length l.length) l.length l.length (l.flatMap f):=
 ⟨fM f sz hf l,aDl _,hl,.inr ⟨b,0,rfl,h.lt,h.range⟩⟩
theorem DM (hb:base<=b) (hc:c<=maxLen) (h:Bk b cs 220 w) (hv:v=.slice (some ⟨b,0,none⟩) k c) (hl:cs.length=c*5) (hk:k<=c) (hx:cs.take (k*5)=xs):w.ownsRow base 220 5 v k xs:=by
 refine ⟨?_,.inr ⟨b,c,cs.toArray,hv,hb,h,hk,hc,by simpa using hl,by simpa using hx⟩⟩
 rw [<- hx,aB7,hl]
 have:k*5<=c*5:=aA6 _ hk
 omega
theorem List.take_set_of_lt' {α:Type} {l:List α} {x:α} (hi:i<l.length):(l.set i x).take (i+1)=l.take i++[x]:=by
 rw [aAq,aEc hi,List.take_append,aB7,aCt (by omega),aAz (by rw [aB7];omega),show i+1 - i=1 from by omega];rfl
theorem Su (b base) (l:List dN) (w) (hb:base<=b) (hN:l.length<=1000) (hB:Bk b (l.flatMap fZ) 220 w):jP (·=b) 144 [.slice (some ⟨b,0,none⟩) l.length l.length,.func (.func 145) #[] #[]] w fun v W=>W.ownsRow base 220 5 v (gS l).length ((gS l).flatMap fZ):=by
 have hN':l.length<=maxLen:=by unfold maxLen;omega
 refine aJ (n:=42) func144 rfl ntmps144 (aA1 rfl) (rg (bU (nx (rg (aN (.slice (some ⟨b,0,none⟩) l.length l.length) rfl (aN (.func (.func 145) #[] #[]) rfl (cE en195 (a2 rfl rfl) (MF 145 [] lZ (some ⟨b,0,none⟩) l.length l _ VU (by omega) (hB.row fQ (by unfold maxLen;omega)) (fun W d _ _=>He d W)) ?_)))))))
 rintro _ w1 k1 rfl
 have hB:=hB.below k1
 have m2:KM (·=b) w w1:=aDr k1
 refine aW (zi (gG lZ l)) rfl (nx (aF (rg (aN (zi (gG lZ l)) rfl (sq (eZ rfl rfl) (nx ?_))))))
 refine cd rfl (fun c3=>?_) (fun c3=>?_)
 ·
  refine rg (aN (.slice (some ⟨b,0,none⟩) l.length l.length) rfl (aW (.slice (some ⟨b,0,none⟩) l.length l.length) rfl (nx (aE ?_))))
  have hkl:=Tw c3
  exact fO (fn:=Tryz.f144) (R:=fun e w'=>∃ v,e=.returned v/\KM (·=b) w w'/\w'.ownsRow base 220 5 v (gS l).length ((gS l).flatMap fZ)) rfl ⟨_,rfl,m2,by rw [hkl];exact DM hb hN' hB rfl (by rw [fM fZ 5 fQ]) (aDl _) (by rw [<- fM fZ 5 fQ,aCb])⟩
 ·
  refine aG (aF ?_)
  obtain ⟨k0,e0,hk0,ha0,_,hz0⟩:=NP c3
  refine rg (aN (zi ((k0:Nat):Int)) ((rfl).trans (aD7 (Value.int .i64) e0)) (sq (iK rfl rfl (⟨by omega,by omega⟩)) (aW (zi ((((k0:Nat):Int):Int)+(1:Int))) rfl (nx ?_))))
  have hk1:gS (l.take (k0+1))=l.take k0:=by rw [EE hk0,hz0,Gj ha0];simp
  refine aO (lp (fun m g W=>∃ i:Nat,∃ j:Nat,∃ ml:List dN,m=l.length - j/\g 0=.slice (some ⟨b,0,none⟩) l.length l.length/\g 1=.func (.func 145) #[] #[]/\g 4=cP/\g 5=zi ((i:Nat):Int)/\g 6=zi ((j:Nat):Int)/\Bk b (ml.flatMap fZ) 220 W/\KM (·=b) w W/\(i<j/\j<=l.length/\ml.length=l.length/\ml.take i=gS (l.take j)/\ml.drop j=l.drop j/\i=(gS (l.take j)).length)) _ ⟨k0,k0+1,l,rfl,rfl,rfl,rfl,((rfl).trans (aD7 (Value.int .i64) e0)),rfl,hB,m2,⟨by omega,by omega,rfl,hk1.symm,rfl,by rw [hk1,aB7];omega⟩⟩ ?_)
  rintro m g4 w4 ⟨i,j,ml,hme,s0,s1,s4,s5,s6,hB,km4_w,⟨hij,hjl,hml,hmi,hmd,hil⟩⟩
  have hr:=hB.range
  have hg:=hB.lt
  refine aF (rg (bI s6 (bI s0 (sq (aY underlying94 rfl) (sq (eT rfl rfl) (nx ?_))))))
  refine cd rfl (fun c5=>?_) (fun c5=>?_)
  ·
   refine aG (aF (aO ?_))
   have hj:j<l.length:=by have:=aBp c5;omega
   have hjm:j<ml.length:=by omega
   refine rg (bI s0 (bI s6 (sq (bB underlying94 sizeOf220 rfl rfl (by omega)) (sq (uI rfl (cQ fZ 5 fQ hr hg (aDt _ _) (by omega)) rfl) (eA (cs:=[.int .u8 (0),.string (⟨#[]⟩),.string (⟨#[]⟩),aV,.bool false]) zeroValue220 rfl fun w6 B6 k6 z6 =>?_)))))
   have nhB_B6:=aC8 hB.lt
   have lkB6_w:=km4_w.size
   have leB6_w4:=aDl w4.heap.size
   have hB:=hB.below k6
   have m7:KM (·=b) w w6:=km4_w.below k6
   refine bR (vs:=fZ ml[j]) B6 sizeOf220 rfl rfl rfl rfl fun w8 B6n O8 z8 =>?_
   replace B6:=B6n
   have hB:=hB.only O8 nhB_B6
   have m9:=m7.only O8 (.inr lkB6_w)
   refine nx (rg (bI s1 (sq (uI rfl B6.range rfl) (RC (caps:=[]) VU rfl (ac (a1 rfl)) (He ml[j] _) ?_))))
   rintro _ w11 k11 rfl
   have hB:=hB.below k11
   have B6:=B6.below k11
   have m13:=m9.below k11
   refine sq (cJ rfl) (nx ?_)
   refine cd rfl (fun c14=>?_) (fun c14=>?_)
   ·
    refine rg (bI s0 (bI s5 (sq (uI rfl B6.range rfl) (sq (bB underlying94 sizeOf220 rfl rfl (by omega)) (KO (vs:=fZ ml[j]) hB sizeOf220 rfl rfl rfl (by rw [Nat.ble_eq,fM fZ 5 fQ,fQ];have:(i+1)*5<=ml.length*5:=aA6 _ (by omega);omega) fun w15 hBn O15 z15 =>?_)))))
    rw [aDa,Nn fZ 5 fQ ml i ml[j] (by omega)] at hBn
    replace hB:=hBn
    have m16:=m13.only O15 (.inl rfl)
    refine nx (eO (bI s5 (sq (iK rfl rfl (⟨by omega,by omega⟩)) (aW (zi ((((i:Nat):Int):Int)+(1:Int))) rfl (nl (pI (eO (bI s6 (sq (iK rfl rfl (⟨by omega,by omega⟩)) (aW (zi ((((j:Nat):Int):Int)+(1:Int))) rfl (nl ?_)))))))))))
    have e1:ml[j]=l[j]:=by have:=aD7 (fun q=>q[0]?) hmd;simp only [List.getElem?_drop,Nat.add_zero,List.getElem?_eq_getElem hjm,List.getElem?_eq_getElem hj,aBv] at this;exact this
    have hz:lZ l[j]=false:=by rw [<- e1];simpa using c14
    have hku:gS (l.take (j+1))=gS (l.take j)++[l[j]]:=by rw [EE hj,hz];rfl
    exact fC (by omega) ⟨i+1,j+1,ml.set i ml[j],rfl,s0,s1,s4,(aD7 (Value.int .i64) (by omega)),(aD7 (Value.int .i64) (by omega)),hB,m16,⟨by omega,by omega,by rw [aCq];exact hml,by rw [hku,<- hmi,<- e1,List.take_set_of_lt' (by omega)],by rw [List.drop_set_of_lt (by omega)];have:=aD7 (List.drop 1) hmd;simpa [List.drop_drop,Nat.add_comm] using this,by rw [hku,aBh,<- hil];rfl⟩⟩
   ·
    refine aG (pI (eO (bI s6 (sq (iK rfl rfl (⟨by omega,by omega⟩)) (aW (zi ((((j:Nat):Int):Int)+(1:Int))) rfl (nl ?_))))))
    have e1:ml[j]=l[j]:=by have:=aD7 (fun q=>q[0]?) hmd;simp only [List.getElem?_drop,Nat.add_zero,List.getElem?_eq_getElem hjm,List.getElem?_eq_getElem hj,aBv] at this;exact this
    have hz:lZ l[j]=true:=by rw [<- e1];simpa using c14
    have hku:gS (l.take (j+1))=gS (l.take j):=by rw [EE hj,hz];simp
    exact fC (by omega) ⟨i,j+1,ml,rfl,s0,s1,s4,s5,(aD7 (Value.int .i64) (by omega)),hB,m13,⟨by omega,by omega,hml,by rw [hku];exact hmi,by have:=aD7 (List.drop 1) hmd;simpa [List.drop_drop,Nat.add_comm] using this,by rw [hku];exact hil⟩⟩
  ·
   refine cI ?_
   repeat refine bN ?_
   refine dP ?_
   have hje:j=l.length:=by have:=aBe c5;omega
   have him:i<ml.length:=by omega
   refine rg (bI s0 (bI s5 (sq (r_slL underlying94 sizeOf220 rfl rfl (by omega) (aDl _)) (Va (sz:=5) underlying94 zeroValue220 rfl (by decide) hB rfl (by omega) (by rw [fM fZ 5 fQ,<- aDn,show i+(l.length - i)=ml.length from by omega];omega) fun w17 zs17 hzs17 hBn O17 z17 =>?_))))
   replace hB:=hBn
   have m18:KM (·=b) w w17:=km4_w.only O17 (.inl rfl)
   refine nx (rg (bI s0 (bI s5 (sq (Rm underlying94 sizeOf220 rfl rfl (by omega)) (aW (.slice (some ⟨b,0,none⟩) i l.length) rfl (nx (aE ?_)))))))
   rw [hje,aCb] at hmi hil
   rw [<- hil]
   exact fO (fn:=Tryz.f144) (R:=fun e w'=>∃ v,e=.returned v/\KM (·=b) w w'/\w'.ownsRow base 220 5 v i ((gS l).flatMap fZ)) rfl ⟨_,rfl,m18,DM hb hN' hB rfl (by rw [FZ,fM fZ 5 fQ,hml]) (by omega) (by rw [ER _ _ _ (by rw [hzs17,fM fZ 5 fQ,<- aDn,show i+(l.length - i)=ml.length from by omega];omega),aBs,(zE fZ 5 fQ ml i (by omega)).1,hmi,List.take_left' (by rw [fM fZ 5 fQ,<- hil])])⟩
end Go.Proofs.YtlfjfopjjbbcoaaGreatDoor
