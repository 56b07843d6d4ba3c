/-
  A part of the proof of ImageText: walks of its functions and plain laws. Nothing is asked.
-/
import Derived.Test.YtlfjfopjjbbcoaaGreatDoorPE
set_option linter.all false
set_option autoImplicit true
set_option relaxedAutoImplicit true
namespace Go.Proofs.YtlfjfopjjbbcoaaGreatDoor
open Go.Proofs.Tryz
open Go.RowKit
theorem mul11 (w):cT 219 [.int .u64 1,.int .u64 1] w fun v _=>v=.tuple [.int .u64 0,.int .u64 1].toArray:=
 (Ty 1 1 (by omega) (by omega) w).mono fun v W _ h=>by rw [h];rfl
section
variable {r:Option Nat} {n:Nat} {ds:List Deferred} {g:Nat->Value} {w:World} {Q:Exit->Act->World->Prop} {l:List Oper} {ops:Array Oper} {ty:TypeId} {pos:String} {aft:Array Edge} {d:Tmp} {x y:Operand} {t:TypeId}
theorem UJ (hx:ev n g x=zi 1) (h:∀ w',Bk w.heap.size [.bool false,.bool false,zi 0] 128 w'->Below w.heap.size w w'->w'.heap.size=w.heap.size+1->dY r ops Q l (fr n ds (up g d (.slice (some ⟨w.heap.size,0,none⟩) 1 1))) w'):
  dY r ops Q (⟨some d,.makeSlice 36 x x,ty,pos,aft,none⟩::l) (fr n ds g) w:=by
 obtain ⟨i0,hi0,hz0,hz1,hz2⟩:=info_parts Cl
 refine eM rfl fun K hK=>?_
 have hm:=run_makeSlice (P:=prog) (w:=w) 36 128 i0 _ underlying36 hi0 hz0 .i64 .i64 1 1 (by omega) (by omega) (by rw [hz1];decide) (by rw [hz2];decide) (by omega)
 have e1:madeCells (Value.agg #[.bool false,.bool false,zi 0]).cells ((1:Int).toNat*i0.size)=[.bool false,.bool false,zi 0].toArray:=by rw [hz1];kernel_rfl
 rw [e1] at hm
 have hr:(execOp (ev n g) ⟨some d,.makeSlice 36 x x,ty,pos,aft,none⟩).run prog w=.ok (.value (.slice (some ⟨w.heap.size,0,none⟩) 1 1)) (w.alloc (.cells [.bool false,.bool false,zi 0].toArray 128)):=by
  unfold execOp
  simp [hx,hm]
 refine iC (by rw [bV];exact hr) ?_
 rw [fF]
 exact hK _ _ (h _ (Bk.new _ 128 w) (iF w _) (by simp))
theorem w_cp (hu:prog.underlying t=some (.slice e)) (hs:∀ w,(sizeOf e).run prog w=.ok cs.length w) (hB:Bk b cs td w) (hB2:Bk b2 cs2 td2 w) (hx:ev n g x=.slice (some ⟨b2,0,none⟩) 1 1) (hy:ev n g y=.slice (some ⟨b,0,none⟩) 1 1)
  (h1:cs.all (·.oneCell')=true) (hl:cs.length=cs2.length) (h:∀ w',Bk b2 (qZ cs2 0 cs) td2 w'->aS b2 w w'->w'.heap.size=w.heap.size->dY r ops Q l (fr n ds (up g d (zi 1))) w'):
  dY r ops Q (⟨some d,.call ⟨.builtin .copy,#[x,y],#[t,t]⟩,ty,pos,aft,none⟩::l) (fr n ds g) w:=by
 refine eM rfl fun K hK=>?_
 have hld:=run_loadCells_list (P:=prog) w ⟨b,0,none⟩ cs (fun j v hv=>by rw [aDf];exact hB.range j v hv)
 obtain ⟨w',hr',hB',hO,hz⟩:=gJ 0 cs 0 cs2 w hB2 h1 (by omega)
 have hr:(execOp (ev n g) ⟨some d,.call ⟨.builtin .copy,#[x,y],#[t,t]⟩,ty,pos,aft,none⟩).run prog w=.ok (.value (zi 1)) w':=by
  simp [execOp,resolve,invoke,builtin,hx,hy,Builtin.copy_,run_underlying hu,Builtin.lenOf,Builtin.firstCells,hs,hld,hr',Result.andThen,goInt]
 refine iC (by rw [bV];exact hr) ?_
 rw [fF]
 exact hK _ _ (h w' hB' hO hz)
end
theorem SE (b) (w) (hB:Bk b [.bool true,.bool true,zi 0] 128 w):cT 173 [.slice (some ⟨b,0,none⟩) 1 1,zi 1] w fun v W=>∃ q,v=.slice (some ⟨q,0,none⟩) 1 1/\w.heap.size<=q/\Bk q [.bool true,.bool true,zi 0] 128 W:=by
 refine aJ (n:=48) func173 rfl ntmps173 (aA1 rfl) (rg (aW (cP) rfl (nx (aF (rg (aN (zi (1)) rfl (iJ (.bool false) (eT rfl rfl) (by first | rfl | decide | simp) (nx (rM rfl (aG (rg (aN (.slice (some ⟨b,0,none⟩) (1) (1)) rfl ?_))))))))))))
 refine sq (aY underlying36 rfl) (iJ (.int .u64 (1)) (pO underlying3 underlying208 rfl) (by first | rfl | decide | simp) (aN (zi (1)) rfl (iJ (.int .u64 (1)) (pO underlying3 underlying208 rfl) (by first | rfl | decide | simp) (cE ZE (a2 rfl rfl) (mul11 _) ?_))))
 rintro _ w1 k1 rfl
 have hB:=hB.below k1
 refine aN (.tuple #[.int .u64 (0),.int .u64 (1)]) rfl (sq (dT rfl rfl) (sq (dT rfl rfl) (aW (.int .u64 (0)) rfl (aW (.int .u64 (1)) rfl (nx (aF (rg (aN (.int .u64 (0)) rfl (iJ (.bool false) (gH rfl rfl) (by first | rfl | decide | simp) (aN (.bool false) rfl (BQ (.int .u64 (1)) rfl rfl aT (by first | rfl | decide | simp) (BQ (.bool false) rfl rfl (gH rfl rfl) (by first | rfl | decide | simp) ?_))))))))))))
 refine iJ (.bool false) (DE rfl) rfl (nx (rM rfl (aG (rg (aN (.int .u64 (1)) rfl (iJ (zi (1)) (pO underlying208 underlying3 rfl) (by first | rfl | decide | simp) (UJ rfl fun w2 B2 k2 z2 =>?_)))))))
 have nhB_B2:=aC8 hB.lt
 have leB2:=k1.size
 have b3:=aDu k1 k2
 have hB:=hB.below k2
 refine aW (.slice (some ⟨w1.heap.size,0,none⟩) (1) (1)) rfl (nx (rg (aN (.slice (some ⟨w1.heap.size,0,none⟩) (1) (1)) rfl (aN (.slice (some ⟨b,0,none⟩) (1) (1)) rfl (w_cp (cs:=[.bool true,.bool true,zi 0]) underlying36 sizeOf128 hB B2 rfl rfl rfl rfl fun w4 B2n O4 z4 =>?_)))))
 replace B2:=B2n
 have b5:=aS.toBelow O4 b3 b3.size leB2
 refine aW (zi (1)) rfl (nx (aF (aO (Al (aF (rg (aN (zi (1)) rfl (aN (.slice (some ⟨w1.heap.size,0,none⟩) (1) (1)) rfl (sq (aY underlying36 rfl) (iJ (.bool false) (eT rfl rfl) (by first | rfl | decide | simp) (nx (rM rfl ?_))))))))))))
 refine cI ?_
 repeat refine bN ?_
 exact dP (rg (aN (.slice (some ⟨w1.heap.size,0,none⟩) (1) (1)) rfl (aW (.slice (some ⟨w1.heap.size,0,none⟩) (1) (1)) rfl (nx (aE (fO rfl ⟨_,rfl,b5,_,rfl,leB2,B2⟩))))))
theorem GK {g:Nat->Value} {ty:TypeId} {a1:Bool} {a2:Bool} (h0:ev n g x0=.bool a1) (h1:ev n g x1=.bool a2):aL n g ⟨dd,.build 128 #[(0,x0),(1,x1)],ty,pos,aft,gd⟩ w (.agg [.bool a1,.bool a2,aV].toArray):=
 iA (ps:=[(0,x0),(1,x1)]) (by simp only [aC3,aDb,h0,h1];kernel_rfl)
theorem Lt (w):cT 122 [zi 1] w fun v W=>∃ q,v=.tuple #[.slice (some ⟨q,0,none⟩) 1 1,zi 0]/\w.heap.size<=q/\Bk q [.bool true,.bool true,zi 0] 128 W:=by
 refine aJ (n:=14) func122 rfl ntmps122 (aA1 rfl) (rg (bU (bU (nx (aF (rg (aN (zi (1)) rfl (iJ (.bool false) (eT rfl rfl) (by first | rfl | decide | simp) (aN (.bool false) rfl (BQ (zi (1)) rfl rfl aT (by first | rfl | decide | simp) (BQ (.bool false) rfl rfl (gH rfl rfl) (by first | rfl | decide | simp) (iJ (.bool false) (DE rfl) rfl ?_))))))))))))
 refine nx (rM rfl (aG (rg (sq (GK rfl rfl) (Cd (cs:=[.bool true,.bool true,aV]) underlying36 Cl rfl rfl rfl rfl fun w1 B1 k1 z1 =>?_)))))
 have leB1:=aDl w.heap.size
 refine aN (zi (1)) rfl (cE Zr (a2 rfl rfl) (SE w.heap.size _ B1) ?_)
 rintro v2 w2 k2 ⟨qn,rfl,hqn,hBn⟩
 have b3:=aDu k1 k2
 exact aW (.slice (some ⟨qn,0,none⟩) (1) (1)) rfl (bU (nx (aE (wJ rfl ⟨_,rfl,b3,qn,pY rfl rfl,aC7 k1.size hqn,hBn⟩))))
theorem Jv {g:Nat->Value} {ty:TypeId} {a1:Int} (h0:ev n g x0=zi a1):aL n g ⟨dd,.build 32 #[(0,x0)],ty,pos,aft,gd⟩ w (.agg [zi a1,cP].toArray):=
 iA (ps:=[(0,x0)]) (by simp only [aC3,aDb,h0];kernel_rfl)
theorem Qg (w):cT 121 [] w fun v _=>v=.agg [zi 1,cP].toArray:=by
 refine aJ (n:=2) func121 rfl ntmps121 (aA1 rfl) (rg (eA (cs:=[aV,cP]) zeroValue32 rfl fun w1 B1 k1 z1 =>?_))
 have leB1:=aDl w.heap.size
 refine nx (rg (sq (Jv rfl) (bR (vs:=[zi (1),cP]) B1 sizeOf32 rfl rfl rfl rfl fun w2 B1n O2 z2 =>?_)))
 replace B1:=B1n
 have b3:=aS.toBelow O2 k1 k1.size leB1
 exact nx (aE (tY (rW rfl rfl (vZ (cs:=[zi 1,cP]) isAgg32 sizeOf32 B1)) ⟨_,rfl,b3,rfl⟩))
theorem RW {g:Nat->Value} {ty:TypeId} (hx:ev n g x=cP) (hy:ev n g y=cP):aL n g ⟨dd,.binOp .eql 23 x y 23,ty,pos,aft,gd⟩ w (.bool true):=by
 unfold aL execOp; simp only [hx, hy, go_sem]; kernel_rfl
theorem MQ (w):cT 120 [cP] w fun v _=>v=cP:=by
 refine aJ (n:=8) func120 rfl ntmps120 (aA1 rfl) (rg (bU (nx (aF (rg (aN (cP) rfl (iJ (.bool true) (RW rfl rfl) rfl (nx (Ns rfl (rg (bU (nx ?_))))))))))))
 exact aE (fO (fn:=Tryz.f120) (R:=fun e W=>∃ v,e=.returned v/\Below w.heap.size w W/\v=cP) rfl ⟨_,rfl,(aDt _ _),rfl⟩)
def xG:aZ:=(⟨1,none,0,[],1,0,0,1,0,0,0,0,0,0⟩:aZ)
theorem Rx: bH xG=true:=by kernel_rfl
theorem Dy: xG.Fit:=by
 constructor <;> simp [xG,jO]
theorem GP (w):xG.At w:=⟨rfl,aDl _,aDm _,.inl ⟨rfl,rfl,rfl⟩⟩
theorem FM (w):cT 25 [.agg (aZ.cells xG).toArray] w fun v _=>v=zi 0:=
 (vX xG w Dy (GP w)).mono fun v W _ h=>by rw [h,Rx];rfl
theorem eR {n:Nat} {g:Nat->Value} {w:World} {dd:Option Tmp} {ty:TypeId} {pos:String} {aft:Array Edge} {gd:Option (Nat × Bool)} {x0 x1:Operand} {a1:Int} {a2:Option Addr} {n2 c2:Nat} {a3:Int} {a4:Int} {a5:Int} {a6:Int} {a7:Int} {a8:Int} {a9:Int} {a10:Int} {a11:Int} {a12:Int} {a13:Int} {a14:Option Addr} {n14 c14:Nat} (h0:ev n g x0=.agg [zi a1,.slice a2 n2 c2,zi a3,zi a4,zi a5,zi a6,zi a7,zi a8,zi a9,zi a10,zi a11,zi a12].toArray) (h1:ev n g x1=.agg [zi a13,.slice a14 n14 c14].toArray):aL n g ⟨dd,.build 41 #[(0,x0),(2,x1)],ty,pos,aft,gd⟩ w (.agg [zi a1,.slice a2 n2 c2,zi a3,zi a4,zi a5,zi a6,zi a7,zi a8,zi a9,zi a10,zi a11,zi a12,aV,zi a13,.slice a14 n14 c14,cP,cP,cP,cP,cP,cP,cP,.bool false].toArray):=
 iA (ps:=[(0,x0),(2,x1)]) (by simp only [aC3,aDb,h0,h1];kernel_rfl)
def jV (q:Nat):aX:=⟨xG,0,1,none,0,[],none,0,[],none,0,[],none,0,[],some ⟨q,0,none⟩,1,[⟨true,true,0⟩],none,0,[],none,0,[],none,0,[],false⟩
theorem tupL (h:b=c):Value.tuple #[a,b]=.tuple #[a,c]:=by rw [h]
theorem Yj (w):cT 39 [.agg (aZ.cells xG).toArray] w fun v W=>∃ q,v=.tuple #[.agg (aX.cells (jV q)).toArray,zi 0]/\w.heap.size<=q/\Bk q [.bool true,.bool true,zi 0] 128 W:=by
 refine aJ (n:=54) func39 rfl ntmps39 (aA1 rfl) (rg (cO (cs:=(aZ.cells xG)) rfl rfl fun w1 B1 k1 z1 =>?_))
 have leB1:=aDl w.heap.size
 refine eA (cs:=uC) zeroValue41 rfl fun w2 B2 k2 z2 =>?_
 have nB1_B2:=aC8 B1.lt
 have leB2:=k1.size
 have b3:=aDu k1 k2
 have B1:=B1.below k2
 refine bU (nx (aF (rg (sq (AT rfl B1.range rfl) (cE Wx (a1 rfl) (FM _) ?_)))))
 rintro _ w4 k4 rfl
 have b5:=aDu b3 k4
 have B1:=B1.below k4
 have B2:=B2.below k4
 refine iJ (.bool false) (gC rfl rfl) (by first | rfl | decide | simp) (nx (rM rfl (aG (rg (sq (nJ rfl) (sq (CR rfl (B1.cell 1 rfl)) (cE en120 (a1 rfl) (MQ _) ?_)))))))
 rintro _ w6 k6 rfl
 have b7:=aDu b5 k6
 have B1:=B1.below k6
 have B2:=B2.below k6
 refine sq (nJ rfl) (eP B1 sizeOf23 rfl rfl rfl rfl fun w8 B1n O8 z8 =>?_)
 replace B1:=B1n
 have b9:=aS.toBelow O8 b7 b7.size leB1
 have B2:=B2.only O8 nB1_B2.symm
 refine nx ?_
 have hal10:=B1.lt
 have hal11:=B2.lt
 have hal12:=b9.size
 refine YF 4 (_::(vE (.agg [zi (1),cP].toArray))::_::(fun v W=>∃ b,v=pt b 0/\w8.heap.size<=b/\Bk b uC 41 W)::[]) [(3,4),(2,19)] [1,2,3] rfl rfl ⟨aA,aA,aA,(fun v a b ⟨x,e,h,hB⟩ k=>⟨x,e,h,hB.below k⟩),trivial⟩ (by kernel_rfl) rfl rfl rfl rfl rfl (fun Sd=>⟨
  iG 1 Sd rfl fun hT q=>AT q ((B1.below hT).range) rfl,
  oW [] [] Sd rfl fun _ _ _ _ _=>gV rfl ZQ (Qg _),
  aP [0,1] Sd rfl fun h=>eR h.1 h.2.1,
  oW [] [] Sd rfl fun _ _ hT _ _=>(Ey (cs:=uC) zeroValue41 rfl (fun W hB hb=>⟨hb,_,rfl,Below.size hT,hB⟩)),
  trivial⟩) ?_
 rintro g13 w13 k13 ⟨s4,s19,-⟩ ⟨o1,o2,o3,-⟩ Kq hK
 obtain ⟨ab4,s4,hab4,hAB4⟩:=s4
 have s1:g13 1=pt w.heap.size (0):=o1.trans rfl
 have s2:g13 2=pt w1.heap.size (0):=o2.trans rfl
 have b14:=aDu b9 k13
 have B1:=B1.below k13
 have B2:=B2.below k13
 refine kI (vs:=[zi (1),cP,zi (1),aV,aV,zi (1),aV,aV,aV,aV,aV,aV,aV,zi (1),cP,cP,cP,cP,cP,cP,cP,cP,.bool false]) hAB4 sizeOf41 s4 s19 rfl rfl fun w15 hAB4n O15 z15 =>?_
 replace hAB4:=hAB4n
 have b16:=aS.toBelow O15 b14 b14.size (by omega)
 have B1:=B1.only O15 (by omega)
 have B2:=B2.only O15 (by omega)
 refine hK _ _ (rg (sq (vR s1) (sq (EI rfl (B1.cell 0 rfl)) ?_)))
 have hlq0:=B1.lt
 have hlq1:=B2.lt
 have hlq2:=hAB4.lt
 refine cE en122 (a1 rfl) (Lt _) ?_
 rintro v17 w17 k17 ⟨qn,rfl,hqn,hBn⟩
 have b18:=aDu b16 k17
 have B1:=B1.below k17
 have B2:=B2.below k17
 have hAB4:=hAB4.below k17
 refine aN (.tuple #[.slice (some ⟨qn,0,none⟩) (1) (1),aV]) rfl (sq (dT rfl rfl) (sq (dT rfl rfl) (sq (vU s4) (eP hAB4 sizeOf36 rfl rfl rfl rfl fun w19 hAB4n O19 z19 =>?_))))
 replace hAB4:=hAB4n
 have FC:=aS.toBelow O19 b18 b18.size (by omega)
 have B1:=B1.only O19 (by omega)
 have B2:=B2.only O19 (by omega)
 have hBn:=hBn.only O19 (by omega)
 refine nx (aF (rg (sq (nJ s1) (sq (CR rfl (B1.cell 1 rfl)) (sq (aY underlying23 rfl) (rU (nx (aO (Al (rg (iJ (.bool false) (eT rfl rfl) (by first | rfl | decide | simp) (nx ?_))))))))))))
 refine aF (rM rfl (cI ?_))
 repeat refine bN ?_
 refine dP (rg (sq (BH s4 hAB4.range rfl) (bR (vs:=[zi (1),cP,zi (1),aV,aV,zi (1),aV,aV,aV,aV,aV,aV,aV,zi (1),cP,cP,cP,cP,.slice (some ⟨qn,0,none⟩) (1) (1),cP,cP,cP,.bool false]) B2 sizeOf41 s2 rfl rfl rfl fun w21 B2n O21 z21 =>?_)))
 replace B2:=B2n
 have b22:=aS.toBelow O21 FC FC.size leB2
 have hBn:=hBn.only O21 (by omega)
 exact bU (nx (aE (tY (Co rfl s2 (vZ (cs:=aX.cells (jV qn)) isAgg41 sizeOf41 B2)) ⟨_,rfl,b22,qn,tupL rfl,aC7 b16.size hqn,hBn⟩)))
theorem Mo: prog.eqGuardType prog.depth 25=false:=by kernel_rfl
theorem OJ: prog.stoodInHeld 25=false:=by kernel_rfl
theorem Om: prog.underlying 25=some (.struct (prog.fieldsOf 25)):=by kernel_rfl
theorem Rg (a0:Int) (a1:Int) (a2:Int) (w):(Op.equal 25 (.agg [zi a0,zi a1,zi a2].toArray) (.agg [zi a0,zi a1,zi a2].toArray)).run prog w=.ok true w:=by
 have h:(Op.equal 25 (.agg [zi a0,zi a1,zi a2].toArray) (.agg [zi a0,zi a1,zi a2].toArray)).run prog w=(Op.equalIn Op.maxDepth 25 (.agg [zi a0,zi a1,zi a2].toArray) (.agg [zi a0,zi a1,zi a2].toArray)).run prog w:=rfl
 rw [h,show Op.maxDepth=(Op.maxDepth - 1)+1 from rfl,run_equalIn_struct _ _ _ _ _ Om OJ]
 unfold Program.fieldsOf
 rw [underlying25]
 have h2:∀ (d:Nat) (p q:Int) (w:World),(Op.equalIn (d+1) 2 (zi p) (zi q)).run prog w=.ok (p == q) w:=fun d p q w=>run_equalIn_int w d 2 .i64 .i64 p q underlying2
 have h3:∀ (d:Nat) (p q:Int) (w:World),(Op.equalIn (d+1) 3 (zi p) (zi q)).run prog w=.ok (p == q) w:=fun d p q w=>run_equalIn_int w d 3 .i64 .i64 p q underlying3
 rw [show Op.maxDepth - 1=(Op.maxDepth - 2)+1 from rfl]
 simp [Op.eqFields, part, h2, h3, go_sem]
theorem Ui {g:Nat->Value} {ty t':TypeId} {a0:Int} {a1:Int} {a2:Int} (hx:ev n g x=.agg [zi a0,zi a1,zi a2].toArray) (hy:ev n g y=.agg [zi a0,zi a1,zi a2].toArray):aL n g ⟨dd,.binOp .neq 25 x y t',ty,pos,aft,gd⟩ w (.bool false):=by
 have he:=Rg a0 a1 a2 w
 unfold aL execOp
 simp only [hx,hy]
 simp [eqGuard, Mo, binOp, he, go_sem]
theorem Mm: prog.eqGuardType prog.depth 27=false:=by kernel_rfl
theorem PV: prog.stoodInHeld 27=false:=by kernel_rfl
theorem Rj: prog.underlying 27=some (.struct (prog.fieldsOf 27)):=by kernel_rfl
theorem OV (a0:Int) (a1:Int) (a2:Int) (a3:Int) (a4:Int) (w):(Op.equal 27 (.agg [zi a0,zi a1,zi a2,zi a3,zi a4].toArray) (.agg [zi a0,zi a1,zi a2,zi a3,zi a4].toArray)).run prog w=.ok true w:=by
 have h:(Op.equal 27 (.agg [zi a0,zi a1,zi a2,zi a3,zi a4].toArray) (.agg [zi a0,zi a1,zi a2,zi a3,zi a4].toArray)).run prog w=(Op.equalIn Op.maxDepth 27 (.agg [zi a0,zi a1,zi a2,zi a3,zi a4].toArray) (.agg [zi a0,zi a1,zi a2,zi a3,zi a4].toArray)).run prog w:=rfl
 rw [h,show Op.maxDepth=(Op.maxDepth - 1)+1 from rfl,run_equalIn_struct _ _ _ _ _ Rj PV]
 unfold Program.fieldsOf
 rw [underlying27]
 have h2:∀ (d:Nat) (p q:Int) (w:World),(Op.equalIn (d+1) 2 (zi p) (zi q)).run prog w=.ok (p == q) w:=fun d p q w=>run_equalIn_int w d 2 .i64 .i64 p q underlying2
 have h3:∀ (d:Nat) (p q:Int) (w:World),(Op.equalIn (d+1) 3 (zi p) (zi q)).run prog w=.ok (p == q) w:=fun d p q w=>run_equalIn_int w d 3 .i64 .i64 p q underlying3
 rw [show Op.maxDepth - 1=(Op.maxDepth - 2)+1 from rfl]
 simp [Op.eqFields, part, h2, h3, go_sem]
theorem Vs {g:Nat->Value} {ty t':TypeId} {a0:Int} {a1:Int} {a2:Int} {a3:Int} {a4:Int} (hx:ev n g x=.agg [zi a0,zi a1,zi a2,zi a3,zi a4].toArray) (hy:ev n g y=.agg [zi a0,zi a1,zi a2,zi a3,zi a4].toArray):aL n g ⟨dd,.binOp .neq 27 x y t',ty,pos,aft,gd⟩ w (.bool false):=by
 have he:=OV a0 a1 a2 a3 a4 w
 unfold aL execOp
 simp only [hx,hy]
 simp [eqGuard, Mm, binOp, he, go_sem]
theorem Jz: prog.eqGuardType prog.depth 128=false:=by kernel_rfl
theorem LC: prog.stoodInHeld 128=false:=by kernel_rfl
theorem Lk: prog.underlying 128=some (.struct (prog.fieldsOf 128)):=by kernel_rfl
theorem Mv (a0:Bool) (a1:Bool) (a2:Int) (w):(Op.equal 128 (.agg [.bool a0,.bool a1,zi a2].toArray) (.agg [.bool a0,.bool a1,zi a2].toArray)).run prog w=.ok true w:=by
 have h:(Op.equal 128 (.agg [.bool a0,.bool a1,zi a2].toArray) (.agg [.bool a0,.bool a1,zi a2].toArray)).run prog w=(Op.equalIn Op.maxDepth 128 (.agg [.bool a0,.bool a1,zi a2].toArray) (.agg [.bool a0,.bool a1,zi a2].toArray)).run prog w:=rfl
 rw [h,show Op.maxDepth=(Op.maxDepth - 1)+1 from rfl,run_equalIn_struct _ _ _ _ _ Lk LC]
 unfold Program.fieldsOf
 rw [underlying128]
 have h2:∀ (d:Nat) (p q:Int) (w:World),(Op.equalIn (d+1) 2 (zi p) (zi q)).run prog w=.ok (p == q) w:=fun d p q w=>run_equalIn_int w d 2 .i64 .i64 p q underlying2
 have h3:∀ (d:Nat) (p q:Int) (w:World),(Op.equalIn (d+1) 3 (zi p) (zi q)).run prog w=.ok (p == q) w:=fun d p q w=>run_equalIn_int w d 3 .i64 .i64 p q underlying3
 have h4:∀ (d:Nat) (p q:Bool) (w:World),(Op.equalIn (d+1) 4 (.bool p) (.bool q)).run prog w=.ok (p == q) w:=fun d p q w=>run_equalIn_bool w d 4 p q underlying4
 rw [show Op.maxDepth - 1=(Op.maxDepth - 2)+1 from rfl]
 simp [Op.eqFields, part, h2, h3, h4, go_sem]
theorem PB {g:Nat->Value} {ty t':TypeId} {a0:Bool} {a1:Bool} {a2:Int} (hx:ev n g x=.agg [.bool a0,.bool a1,zi a2].toArray) (hy:ev n g y=.agg [.bool a0,.bool a1,zi a2].toArray):aL n g ⟨dd,.binOp .neq 128 x y t',ty,pos,aft,gd⟩ w (.bool false):=by
 have he:=Mv a0 a1 a2 w
 unfold aL execOp
 simp only [hx,hy]
 simp [eqGuard, Jz, binOp, he, go_sem]
theorem Xx {g:Nat->Value} {ty:TypeId} {a:Bool} (hx:ev n g x=.bool a) (hy:ev n g y=.bool a):aL n g ⟨dd,.binOp .neq 4 x y 4,ty,pos,aft,gd⟩ w (.bool false):=by
 unfold aL execOp; simp only [hx, hy, go_sem]; cases a <;> kernel_rfl
theorem TQ (nq:Int) (b b2) (c c2) (w):cT 15 [.agg [zi nq,.slice b (0) c].toArray,.agg [zi nq,.slice b2 (0) c2].toArray] w fun v _=>v=.bool true:=by
 refine aJ (n:=39) func15 rfl ntmps15 (aA1 rfl) (rg (cO (cs:=[zi nq,.slice b (0) c]) rfl rfl fun w1 B1 k1 z1 =>?_))
 have leB1:=aDl w.heap.size
 refine cO (cs:=[zi nq,.slice b2 (0) c2]) rfl rfl fun w2 B2 k2 z2 =>?_
 have nB1_B2:=aC8 B1.lt
 have leB2:=k1.size
 have b3:=aDu k1 k2
 have B1:=B1.below k2
 refine bU (nx (aF ?_))
 refine sQ (_::_::_::_::_::_::_::_::_::_::_::_::_::_::[]) [(13,19)] [2,3,4] rfl ⟨aA,aA,aA,aA,aA,aA,aD aA,aD aA,aD aA,aD aA,aD aA,aD aA,aD aA,aA,trivial⟩ (by kernel_rfl) rfl rfl rfl (fun Sd=>⟨
  jA 2 Sd rfl fun q=>wA q,
  fY [0] Sd rfl fun hT h=>cZ h.1 ((B1.below hT).cell 0 rfl),
  jA 3 Sd rfl fun q=>wA q,
  fY [2] Sd rfl fun hT h=>cZ h.1 ((B2.below hT).cell 0 rfl),
  aP [1,3] Sd rfl fun h=>gC h.1 h.2.1,
  oW [(4,10)] [] Sd rfl fun _ _ _ h _=>dv aT h.1,
  fW 2 Sd rfl fun e q=>qN q,
  cK [6] Sd rfl fun e hT h=>Gr (h.1.1 e) ((B1.below hT).cell 1 rfl),
  cK [7] Sd rfl fun e _ h=>aY underlying30 (h.1.1 e),
  fW 3 Sd rfl fun e q=>qN q,
  cK [9] Sd rfl fun e hT h=>Gr (h.1.1 e) ((B2.below hT).cell 1 rfl),
  cK [10] Sd rfl fun e _ h=>aY underlying30 (h.1.1 e),
  cK [8,11] Sd rfl fun e _ h=>gC (h.1.1 e) (h.2.1.1 e),
  aP [5,12] Sd rfl fun h=>dA h.1 (fun c=>h.2.1.1 (tn c)),
  trivial⟩) ?_
 rintro g4 w4 k4 ⟨s19,-⟩ ⟨o2,o3,o4,-⟩
 have s2:g4 2=pt w.heap.size (0):=o2.trans rfl
 have b5:=aDu b3 k4
 have B1:=B1.below k4
 refine rM ((s19).trans (by simp)) (aG (aF (rg (bU (nx (aO (Al (aF (rg (aN aV rfl (sq (qN s2) (sq (Gr rfl (B1.cell 1 rfl)) ?_))))))))))))
 refine sq (aY underlying30 rfl) (iJ (.bool false) (eT rfl rfl) (by first | rfl | decide | simp) (nx (rM rfl (cI ?_))))
 repeat refine bN ?_
 exact dP (rg (bU (nx (aE (fO rfl ⟨_,rfl,b5,rfl⟩)))))
theorem Uk (n0 n1 n2 n3 n4 n5 n6 n7 n8 n9 n10:Int) (b b2) (c c2) (w):cT 14 [.agg [zi n0,.slice b (0) c,zi n1,zi n2,zi n3,zi n4,zi n5,zi n6,zi n7,zi n8,zi n9,zi n10].toArray,.agg [zi n0,.slice b2 (0) c2,zi n1,zi n2,zi n3,zi n4,zi n5,zi n6,zi n7,zi n8,zi n9,zi n10].toArray] w fun v _=>v=.bool true:=by
 refine aJ (n:=66) func14 rfl ntmps14 (aA1 rfl) (rg (cO (cs:=[zi n0,.slice b (0) c,zi n1,zi n2,zi n3,zi n4,zi n5,zi n6,zi n7,zi n8,zi n9,zi n10]) rfl rfl fun w1 B1 k1 z1 =>?_))
 have leB1:=aDl w.heap.size
 refine cO (cs:=[zi n0,.slice b2 (0) c2,zi n1,zi n2,zi n3,zi n4,zi n5,zi n6,zi n7,zi n8,zi n9,zi n10]) rfl rfl fun w2 B2 k2 z2 =>?_
 have nB1_B2:=aC8 B1.lt
 have leB2:=k1.size
 have b3:=aDu k1 k2
 have B1:=B1.below k2
 refine bU (nx (aF ?_))
 refine sQ (_::_::_::_::_::_::_::_::_::_::_::_::_::_::_::_::_::_::_::_::_::_::_::_::_::_::_::_::_::_::_::_::_::_::_::_::_::_::_::_::_::_::[]) [(41,47)] [2,3,4] rfl ⟨aA,aA,aA,aA,aA,aA,aD aA,aD aA,aD aA,aD aA,aD aA,aA,aA,aD aA,aD aA,aD aA,aD aA,aD aA,aA,aA,aD aA,aD aA,aD aA,aD aA,aD aA,aA,aA,aD aA,aD aA,aD aA,aD aA,aD aA,aA,aA,aD aA,aD aA,aD aA,aD aA,aD aA,aD aA,aD aA,aA,trivial⟩ (by kernel_rfl) rfl rfl rfl (fun Sd=>⟨
  jA 2 Sd rfl fun q=>vR q,
  fY [0] Sd rfl fun hT h=>EI h.1 ((B1.below hT).cell 0 rfl),
  jA 3 Sd rfl fun q=>vR q,
  fY [2] Sd rfl fun hT h=>EI h.1 ((B2.below hT).cell 0 rfl),
  aP [1,3] Sd rfl fun h=>gC h.1 h.2.1,
  oW [(4,10)] [] Sd rfl fun _ _ _ h _=>dv aT h.1,
  fW 2 Sd rfl fun e q=>sL q,
  cK [6] Sd rfl fun e hT h=>ld25 (h.1.1 e) ((B1.below hT).part (o:=2) (sub:=[zi n1,zi n2,zi n3]) rfl) rfl,
  fW 3 Sd rfl fun e q=>sL q,
  cK [8] Sd rfl fun e hT h=>ld25 (h.1.1 e) ((B2.below hT).part (o:=2) (sub:=[zi n1,zi n2,zi n3]) rfl) rfl,
  cK [7,9] Sd rfl fun e _ h=>Ui (h.1.1 e) (h.2.1.1 e),
  aP [5,10] Sd rfl fun h=>dA h.1 (fun c=>h.2.1.1 (tn c)),
  oW [(11,17)] [] Sd rfl fun _ _ _ h _=>dv aT h.1,
  fW 2 Sd rfl fun e q=>zK q,
  cK [13] Sd rfl fun e hT h=>cZ (h.1.1 e) ((B1.below hT).cell 5 rfl),
  fW 3 Sd rfl fun e q=>zK q,
  cK [15] Sd rfl fun e hT h=>cZ (h.1.1 e) ((B2.below hT).cell 5 rfl),
  cK [14,16] Sd rfl fun e _ h=>gC (h.1.1 e) (h.2.1.1 e),
  aP [12,17] Sd rfl fun h=>dA h.1 (fun c=>h.2.1.1 (tn c)),
  oW [(18,24)] [] Sd rfl fun _ _ _ h _=>dv aT h.1,
  fW 2 Sd rfl fun e q=>IB q,
  cK [20] Sd rfl fun e hT h=>cZ (h.1.1 e) ((B1.below hT).cell 6 rfl),
  fW 3 Sd rfl fun e q=>IB q,
  cK [22] Sd rfl fun e hT h=>cZ (h.1.1 e) ((B2.below hT).cell 6 rfl),
  cK [21,23] Sd rfl fun e _ h=>gC (h.1.1 e) (h.2.1.1 e),
  aP [19,24] Sd rfl fun h=>dA h.1 (fun c=>h.2.1.1 (tn c)),
  oW [(25,31)] [] Sd rfl fun _ _ _ h _=>dv aT h.1,
  fW 2 Sd rfl fun e q=>vG q,
  cK [27] Sd rfl fun e hT h=>ld27 (h.1.1 e) ((B1.below hT).part (o:=7) (sub:=[zi n6,zi n7,zi n8,zi n9,zi n10]) rfl) rfl,
  fW 3 Sd rfl fun e q=>vG q,
  cK [29] Sd rfl fun e hT h=>ld27 (h.1.1 e) ((B2.below hT).part (o:=7) (sub:=[zi n6,zi n7,zi n8,zi n9,zi n10]) rfl) rfl,
  cK [28,30] Sd rfl fun e _ h=>Vs (h.1.1 e) (h.2.1.1 e),
  aP [26,31] Sd rfl fun h=>dA h.1 (fun c=>h.2.1.1 (tn c)),
  oW [(32,38)] [] Sd rfl fun _ _ _ h _=>dv aT h.1,
  fW 2 Sd rfl fun e q=>nJ q,
  cK [34] Sd rfl fun e hT h=>CR (h.1.1 e) ((B1.below hT).cell 1 rfl),
  cK [35] Sd rfl fun e _ h=>aY underlying23 (h.1.1 e),
  fW 3 Sd rfl fun e q=>nJ q,
  cK [37] Sd rfl fun e hT h=>CR (h.1.1 e) ((B2.below hT).cell 1 rfl),
  cK [38] Sd rfl fun e _ h=>aY underlying23 (h.1.1 e),
  cK [36,39] Sd rfl fun e _ h=>gC (h.1.1 e) (h.2.1.1 e),
  aP [33,40] Sd rfl fun h=>dA h.1 (fun c=>h.2.1.1 (tn c)),
  trivial⟩) ?_
 rintro g4 w4 k4 ⟨s47,-⟩ ⟨o2,o3,o4,-⟩
 have s2:g4 2=pt w.heap.size (0):=o2.trans rfl
 have b5:=aDu b3 k4
 have B1:=B1.below k4
 refine rM ((s47).trans (by simp)) (aG (aF (rg (bU (nx (aO (Al (aF (rg (aN aV rfl (sq (nJ s2) (sq (CR rfl (B1.cell 1 rfl)) ?_))))))))))))
 refine sq (aY underlying23 rfl) (iJ (.bool false) (eT rfl rfl) (by first | rfl | decide | simp) (nx (rM rfl (cI ?_))))
 repeat refine bN ?_
 exact dP (rg (bU (nx (aE (fO rfl ⟨_,rfl,b5,rfl⟩)))))
theorem Ut (b b2) (c c2) (w):cT 16 [.slice b 0 c,.slice b2 0 c2] w fun v _=>v=.bool true:=by
 refine aJ (n:=27) func16 rfl ntmps16 (aA1 rfl) (rg (bU (nx (aF (rg (aN (.slice b (0) c) rfl (sq (aY underlying33 rfl) (aN (.slice b2 (0) c2) rfl (sq (aY underlying33 rfl) (iJ (.bool false) (gC rfl rfl) (by first | rfl | decide | simp) (nx (rM rfl ?_))))))))))))
 refine aG (aF (rg (bU (nx (aO (Al (aF (rg (aN aV rfl (aN (.slice b (0) c) rfl (sq (aY underlying33 rfl) (iJ (.bool false) (eT rfl rfl) (by first | rfl | decide | simp) ?_))))))))))))
 refine nx (rM rfl (cI ?_))
 repeat (first | refine bN ?_ | refine dC rfl ?_)
 exact dP (rg (bU (nx (aE (fO rfl ⟨_,rfl,(aDt _ _),rfl⟩)))))
theorem Sh (b b2) (c c2) (w):cT 17 [.slice b 0 c,.slice b2 0 c2] w fun v _=>v=.bool true:=by
 refine aJ (n:=26) func17 rfl ntmps17 (aA1 rfl) (rg (bU (nx (aF (rg (aN (.slice b (0) c) rfl (sq (aY underlying35 rfl) (aN (.slice b2 (0) c2) rfl (sq (aY underlying35 rfl) (iJ (.bool false) (gC rfl rfl) (by first | rfl | decide | simp) (nx (rM rfl ?_))))))))))))
 refine aG (aF (rg (bU (nx (aO (Al (aF (rg (aN aV rfl (aN (.slice b (0) c) rfl (sq (aY underlying35 rfl) (iJ (.bool false) (eT rfl rfl) (by first | rfl | decide | simp) ?_))))))))))))
 refine nx (rM rfl (cI ?_))
 repeat (first | refine bN ?_ | refine dC rfl ?_)
 exact dP (rg (bU (nx (aE (fO rfl ⟨_,rfl,(aDt _ _),rfl⟩)))))
theorem UZ (b b2) (c c2) (w):cT 19 [.slice b 0 c,.slice b2 0 c2] w fun v _=>v=.bool true:=by
 refine aJ (n:=26) func19 rfl ntmps19 (aA1 rfl) (rg (bU (nx (aF (rg (aN (.slice b (0) c) rfl (sq (aY underlying37 rfl) (aN (.slice b2 (0) c2) rfl (sq (aY underlying37 rfl) (iJ (.bool false) (gC rfl rfl) (by first | rfl | decide | simp) (nx (rM rfl ?_))))))))))))
 refine aG (aF (rg (bU (nx (aO (Al (aF (rg (aN aV rfl (aN (.slice b (0) c) rfl (sq (aY underlying37 rfl) (iJ (.bool false) (eT rfl rfl) (by first | rfl | decide | simp) ?_))))))))))))
 refine nx (rM rfl (cI ?_))
 repeat (first | refine bN ?_ | refine dC rfl ?_)
 exact dP (rg (bU (nx (aE (fO rfl ⟨_,rfl,(aDt _ _),rfl⟩)))))
theorem Vc (b b2) (c c2) (w):cT 20 [.slice b 0 c,.slice b2 0 c2] w fun v _=>v=.bool true:=by
 refine aJ (n:=26) func20 rfl ntmps20 (aA1 rfl) (rg (bU (nx (aF (rg (aN (.slice b (0) c) rfl (sq (aY underlying38 rfl) (aN (.slice b2 (0) c2) rfl (sq (aY underlying38 rfl) (iJ (.bool false) (gC rfl rfl) (by first | rfl | decide | simp) (nx (rM rfl ?_))))))))))))
 refine aG (aF (rg (bU (nx (aO (Al (aF (rg (aN aV rfl (aN (.slice b (0) c) rfl (sq (aY underlying38 rfl) (iJ (.bool false) (eT rfl rfl) (by first | rfl | decide | simp) ?_))))))))))))
 refine nx (rM rfl (cI ?_))
 repeat (first | refine bN ?_ | refine dC rfl ?_)
 exact dP (rg (bU (nx (aE (fO rfl ⟨_,rfl,(aDt _ _),rfl⟩)))))
theorem Sb (b b2) (c c2) (w):cT 21 [.slice b 0 c,.slice b2 0 c2] w fun v _=>v=.bool true:=by
 refine aJ (n:=26) func21 rfl ntmps21 (aA1 rfl) (rg (bU (nx (aF (rg (aN (.slice b (0) c) rfl (sq (aY underlying39 rfl) (aN (.slice b2 (0) c2) rfl (sq (aY underlying39 rfl) (iJ (.bool false) (gC rfl rfl) (by first | rfl | decide | simp) (nx (rM rfl ?_))))))))))))
 refine aG (aF (rg (bU (nx (aO (Al (aF (rg (aN aV rfl (aN (.slice b (0) c) rfl (sq (aY underlying39 rfl) (iJ (.bool false) (eT rfl rfl) (by first | rfl | decide | simp) ?_))))))))))))
 refine nx (rM rfl (cI ?_))
 repeat (first | refine bN ?_ | refine dC rfl ?_)
 exact dP (rg (bU (nx (aE (fO rfl ⟨_,rfl,(aDt _ _),rfl⟩)))))
theorem PE (b b2) (c c2) (w):cT 18 [.slice b 0 c,.slice b2 0 c2] w fun v _=>v=.bool true:=by
 refine aJ (n:=26) func18 rfl ntmps18 (aA1 rfl) (rg (bU (nx (aF (rg (aN (.slice b (0) c) rfl (sq (aY underlying36 rfl) (aN (.slice b2 (0) c2) rfl (sq (aY underlying36 rfl) (iJ (.bool false) (gC rfl rfl) (by first | rfl | decide | simp) (nx (rM rfl ?_))))))))))))
 refine aG (aF (rg (bU (nx (aO (Al (aF (rg (aN aV rfl (aN (.slice b (0) c) rfl (sq (aY underlying36 rfl) (iJ (.bool false) (eT rfl rfl) (by first | rfl | decide | simp) ?_))))))))))))
 refine nx (rM rfl (cI ?_))
 repeat (first | refine bN ?_ | refine dC rfl ?_)
 exact dP (rg (bU (nx (aE (fO rfl ⟨_,rfl,(aDt _ _),rfl⟩)))))
section
variable {r:Option Nat} {n:Nat} {ds:List Deferred} {g:Nat->Value} {w:World} {Q:Exit->Act->World->Prop}
theorem ZG (J:(Nat->Value)->World->Prop) (h1:Wp r c (Exit.then (fun a W=>∃ g,a=fr n ds g/\J g W) Q) (fr n ds g) w) (h2:∀ g W,J g W->Wp r c (Exit.then (fun _ _=>False) Q) (fr n ds g) W):Wp r (Code.loop c) Q (fr n ds g) w:=
 lp (fun m g' w'=>(m=1/\g'=g/\w'=w)\/(m=0/\J g' w')) 1 (.inl ⟨rfl,rfl,rfl⟩) (by
  rintro m g' w' (⟨rfl,rfl,rfl⟩ | ⟨rfl,hJ⟩)
  ·refine vH h1 fun e a W hq =>?_
   cases e with
   | normal=>obtain ⟨g2,rfl,hJ⟩:=hq;exact ⟨0,g2,aCu,rfl,.inr ⟨rfl,hJ⟩⟩
   | _=>exact hq
  ·refine vH (h2 _ _ hJ) fun e a W hq =>?_
   cases e <;> first | exact hq.elim | exact hq)
end
theorem Tc (b b2) (c c2) (w) (hv:Rd 3 w (.slice b 1 c) 1 c ([(⟨true,true,0⟩:cN)].flatMap cN.cells)) (hv2:Rd 3 w (.slice b2 1 c2) 1 c2 ([(⟨true,true,0⟩:cN)].flatMap cN.cells)):cT 18 [.slice b 1 c,.slice b2 1 c2] w fun v _=>v=.bool true:=by
 obtain ⟨q,o,rfl,hgq,hrq⟩:=aD5 hv aCu
 obtain ⟨q2,o2,rfl,hgq2,hrq2⟩:=aD5 hv2 aCu
 refine aJ (n:=26) func18 rfl ntmps18 (aA1 rfl) (rg (bU (nx (aF (rg (aN (.slice (some ⟨q,o,none⟩) (1) c) rfl (sq (aY underlying36 rfl) (aN (.slice (some ⟨q2,o2,none⟩) (1) c2) rfl (sq (aY underlying36 rfl) (iJ (.bool false) (gC rfl rfl) (by first | rfl | decide | simp) (nx (rM rfl ?_))))))))))))
 refine aG (aF (rg (bU (nx (aO ?_)))))
 refine ZG (fun g W=>g 0=.slice (some ⟨q,o,none⟩) (1) c/\g 1=.slice (some ⟨q2,o2,none⟩) (1) c2/\g 5=zi 1/\Below w.heap.size w W) ?_ ?_
 ·
  refine aF (rg (aN aV rfl (aN (.slice (some ⟨q,o,none⟩) (1) c) rfl (sq (aY underlying36 rfl) (iJ (.bool true) (eT rfl rfl) (by first | rfl | decide | simp) (nx (Ns rfl (aG (aF (aO ?_))))))))))
  refine sD (_::_::_::_::_::_::_::_::_::[]) [(0,17),(1,18),(2,19),(3,20),(4,21),(5,22),(6,23),(7,24),(8,25)] [0,1,4,5,11,12,13,14] rfl ⟨aA,aA,aA,aA,aA,aA,aA,aA,aA,trivial⟩ (by kernel_rfl) rfl rfl (fun Sd=>⟨
   bF Sd rfl rfl,
   bF Sd rfl rfl,
   aP [0,1] Sd rfl fun h=>bB (i:=0) underlying36 sizeOf128 h.1 h.2.1 (aBi (Nat.lt_succ_self 0) (aDl _)),
   fY [2] Sd rfl fun hT h=>Ku h.1 (cQ cN.cells 3 cN.len hrq hgq hT aCu) rfl,
   bF Sd rfl rfl,
   bF Sd rfl rfl,
   aP [4,5] Sd rfl fun h=>bB (i:=0) underlying36 sizeOf128 h.1 h.2.1 (aBi (Nat.lt_succ_self 0) (aDl _)),
   fY [6] Sd rfl fun hT h=>Ku h.1 (cQ cN.cells 3 cN.len hrq2 hgq2 hT aCu) rfl,
   aP [3,7] Sd rfl fun h=>PB h.1 h.2.1,
   trivial⟩) ?_
  rintro g1 w1 k1 ⟨s17,s18,s19,s20,s21,s22,s23,s24,s25,-⟩ ⟨o0,o1,o4,o5,o11,o12,o13,o14,-⟩
  have s0:g1 0=.slice (some ⟨q,o,none⟩) (1) c:=o0.trans rfl
  have s1:g1 1=.slice (some ⟨q2,o2,none⟩) (1) c2:=o1.trans rfl
  have s5:g1 5=zi (0):=o5.trans rfl
  exact rM ((s25).trans (by simp)) (aG (pI (eO (bI s5 (iJ (zi (1)) (iK rfl rfl (by decide)) (by first | rfl | decide | simp) (aW (zi (1)) rfl (nl ⟨_,rfl,s0,s1,rfl,k1⟩)))))))
 ·
  rintro g2 w2 ⟨s0,s1,s5,b2⟩
  refine aF (rg (bI s5 (bI s0 (sq (aY underlying36 rfl) (iJ (.bool false) (eT rfl rfl) (by first | rfl | decide | simp) (nx (rM rfl (cI ?_))))))))
  repeat (first | refine bN ?_ | refine dC rfl ?_)
  exact dP (rg (bU (nx (aE (fO rfl ⟨_,rfl,b2,rfl⟩)))))
theorem Qx (n0 n1 n2 n3 n4 n5 n6 n7 n8 n9 n10 nw nq:Int) (p_1 j_1 b_1 o_1 m_1 n_1 s_1 r_1 f_1 p_2 j_2 b_2 o_2 m_2 n_2 s_2 r_2 f_2) (p_c1 j_c1 b_c1 o_c1 m_c1 n_c1 s_c1 r_c1 f_c1 p_c2 j_c2 b_c2 o_c2 m_c2 n_c2 s_c2 r_c2 f_c2) (kn) (dt:Bool) (w) (h18:∀ W,Below w.heap.size w W->cT 18 [.slice n_1 kn n_c1,.slice n_2 kn n_c2] W fun v _=>v=.bool true):cT 6 [.agg [zi n0,.slice p_1 (0) p_c1,zi n1,zi n2,zi n3,zi n4,zi n5,zi n6,zi n7,zi n8,zi n9,zi n10,zi nw,zi nq,.slice j_1 (0) j_c1,.slice b_1 (0) b_c1,.slice o_1 (0) o_c1,.slice m_1 (0) m_c1,.slice n_1 kn n_c1,.slice s_1 (0) s_c1,.slice r_1 (0) r_c1,.slice f_1 (0) f_c1,.bool dt].toArray,.agg [zi n0,.slice p_2 (0) p_c2,zi n1,zi n2,zi n3,zi n4,zi n5,zi n6,zi n7,zi n8,zi n9,zi n10,zi nw,zi nq,.slice j_2 (0) j_c2,.slice b_2 (0) b_c2,.slice o_2 (0) o_c2,.slice m_2 (0) m_c2,.slice n_2 kn n_c2,.slice s_2 (0) s_c2,.slice r_2 (0) r_c2,.slice f_2 (0) f_c2,.bool dt].toArray] w fun v _=>v=.bool true:=by
 refine aJ (n:=110) func6 rfl ntmps6 (aA1 rfl) (rg (cO (cs:=[zi n0,.slice p_1 (0) p_c1,zi n1,zi n2,zi n3,zi n4,zi n5,zi n6,zi n7,zi n8,zi n9,zi n10,zi nw,zi nq,.slice j_1 (0) j_c1,.slice b_1 (0) b_c1,.slice o_1 (0) o_c1,.slice m_1 (0) m_c1,.slice n_1 kn n_c1,.slice s_1 (0) s_c1,.slice r_1 (0) r_c1,.slice f_1 (0) f_c1,.bool dt]) rfl rfl fun w1 B1 k1 z1 =>?_))
 have leB1:=aDl w.heap.size
 refine cO (cs:=[zi n0,.slice p_2 (0) p_c2,zi n1,zi n2,zi n3,zi n4,zi n5,zi n6,zi n7,zi n8,zi n9,zi n10,zi nw,zi nq,.slice j_2 (0) j_c2,.slice b_2 (0) b_c2,.slice o_2 (0) o_c2,.slice m_2 (0) m_c2,.slice n_2 kn n_c2,.slice s_2 (0) s_c2,.slice r_2 (0) r_c2,.slice f_2 (0) f_c2,.bool dt]) rfl rfl fun w2 B2 k2 z2 =>?_
 have nB1_B2:=aC8 B1.lt
 have leB2:=k1.size
 have b3:=aDu k1 k2
 have B1:=B1.below k2
 refine bU (nx (aF ?_))
 refine sQ (_::_::_::_::(vE (.bool true))::_::_::_::_::_::_::_::_::_::_::_::_::_::(GV (!((!(true))||(!decide ((nw:Int)=(nw:Int))))) (vE (.bool true)))::_::_::_::_::_::_::_::(GV (!(((!(true))||(!decide ((nw:Int)=(nw:Int))))||(!(true)))) (vE (.bool true)))::_::_::_::_::_::_::_::_::_::_::_::_::_::_::_::_::(GV (!(((((!(true))||(!decide ((nw:Int)=(nw:Int))))||(!(true)))||(!(true)))||(!decide ((((0:Nat):Int):Int)=(((0:Nat):Int):Int))))) (vE (.bool true)))::_::_::_::_::_::_::_::(GV (!((((((!(true))||(!decide ((nw:Int)=(nw:Int))))||(!(true)))||(!(true)))||(!decide ((((0:Nat):Int):Int)=(((0:Nat):Int):Int))))||(!(true)))) (vE (.bool true)))::_::_::_::_::_::_::_::(GV (!(((((((!(true))||(!decide ((nw:Int)=(nw:Int))))||(!(true)))||(!(true)))||(!decide ((((0:Nat):Int):Int)=(((0:Nat):Int):Int))))||(!(true)))||(!(true)))) (vE (.bool true)))::_::_::_::_::_::_::_::(GV (!((((((((!(true))||(!decide ((nw:Int)=(nw:Int))))||(!(true)))||(!(true)))||(!decide ((((0:Nat):Int):Int)=(((0:Nat):Int):Int))))||(!(true)))||(!(true)))||(!(true)))) (vE (.bool true)))::_::_::_::_::_::_::_::(GV (!(((((((((!(true))||(!decide ((nw:Int)=(nw:Int))))||(!(true)))||(!(true)))||(!decide ((((0:Nat):Int):Int)=(((0:Nat):Int):Int))))||(!(true)))||(!(true)))||(!(true)))||(!(true)))) (vE (.bool true)))::_::_::_::_::_::_::_::_::_::[]) [(84,90)] [2,3,4] rfl ⟨aA,aA,aA,aA,aA,aA,aA,aD aA,aD aA,aD aA,aD aA,aD aA,aA,aA,aD aA,aD aA,aD aA,aD aA,aD aA,aD aA,aA,aA,aD aA,aD aA,aD aA,aD aA,aD aA,aD aA,aA,aA,aD aA,aD aA,aD aA,aD aA,aD aA,aD aA,aD aA,aA,aA,aD aA,aD aA,aD aA,aD aA,aD aA,aD aA,aA,aA,aD aA,aD aA,aD aA,aD aA,aD aA,aD aA,aA,aA,aD aA,aD aA,aD aA,aD aA,aD aA,aD aA,aA,aA,aD aA,aD aA,aD aA,aD aA,aD aA,aD aA,aA,aA,aD aA,aD aA,aD aA,aD aA,aD aA,aD aA,aA,aA,aD aA,aD aA,aD aA,aD aA,aD aA,aA,trivial⟩ (by kernel_rfl) rfl rfl rfl (fun Sd=>⟨
  jA 2 Sd rfl fun q=>vF q,
  fY [0] Sd rfl fun hT h=>AT h.1 ((B1.below hT).part (o:=0) (sub:=[zi n0,.slice p_1 (0) p_c1,zi n1,zi n2,zi n3,zi n4,zi n5,zi n6,zi n7,zi n8,zi n9,zi n10]) rfl) rfl,
  jA 3 Sd rfl fun q=>vF q,
  fY [2] Sd rfl fun hT h=>AT h.1 ((B2.below hT).part (o:=0) (sub:=[zi n0,.slice p_2 (0) p_c2,zi n1,zi n2,zi n3,zi n4,zi n5,zi n6,zi n7,zi n8,zi n9,zi n10]) rfl) rfl,
  oW [(1,7),(3,9)] [] Sd rfl fun _ _ _ h _=>gV (a2 h.1 h.2.1) en14 (Uk n0 n1 n2 n3 n4 n5 n6 n7 n8 n9 n10 p_1 p_2 p_c1 p_c2 _),
  aP [4] Sd rfl fun h=>cJ h.1,
  oW [(5,11)] [] Sd rfl fun _ _ _ h _=>dv aT h.1,
  fW 2 Sd rfl fun e q=>zJ q,
  cK [7] Sd rfl fun e hT h=>cZ (h.1.1 e) ((B1.below hT).cell 12 rfl),
  fW 3 Sd rfl fun e q=>zJ q,
  cK [9] Sd rfl fun e hT h=>cZ (h.1.1 e) ((B2.below hT).cell 12 rfl),
  cK [8,10] Sd rfl fun e _ h=>gC (h.1.1 e) (h.2.1.1 e),
  aP [6,11] Sd rfl fun h=>dA h.1 (fun c=>h.2.1.1 (tn c)),
  oW [(12,18)] [] Sd rfl fun _ _ _ h _=>dv aT h.1,
  fW 2 Sd rfl fun e q=>vO q,
  cK [14] Sd rfl fun e hT h=>PU (h.1.1 e) ((B1.below hT).part (o:=13) (sub:=[zi nq,.slice j_1 (0) j_c1]) rfl) rfl,
  fW 3 Sd rfl fun e q=>vO q,
  cK [16] Sd rfl fun e hT h=>PU (h.1.1 e) ((B2.below hT).part (o:=13) (sub:=[zi nq,.slice j_2 (0) j_c2]) rfl) rfl,
  oF [(15,21),(17,23)] [] Sd rfl i2 gU fun e _ _ _ h _=>dG e (gV (a2 (h.1.1 e) (h.2.1.1 e)) en15 (TQ nq j_1 j_2 j_c1 j_c2 _)),
  cK [18] Sd rfl fun e _ h=>cJ (h.1.1 e),
  aP [13,19] Sd rfl fun h=>dA h.1 (fun c=>h.2.1.1 (tn c)),
  oW [(20,26)] [] Sd rfl fun _ _ _ h _=>dv aT h.1,
  fW 2 Sd rfl fun e q=>Ch q,
  cK [22] Sd rfl fun e hT h=>Vl (h.1.1 e) ((B1.below hT).cell 15 rfl),
  fW 3 Sd rfl fun e q=>Ch q,
  cK [24] Sd rfl fun e hT h=>Vl (h.1.1 e) ((B2.below hT).cell 15 rfl),
  oF [(23,29),(25,31)] [] Sd rfl i2 gU fun e _ _ _ h _=>dG e (gV (a2 (h.1.1 e) (h.2.1.1 e)) en16 (Ut b_1 b_2 b_c1 b_c2 _)),
  cK [26] Sd rfl fun e _ h=>cJ (h.1.1 e),
  aP [21,27] Sd rfl fun h=>dA h.1 (fun c=>h.2.1.1 (tn c)),
  oW [(28,34)] [] Sd rfl fun _ _ _ h _=>dv aT h.1,
  fW 2 Sd rfl fun e q=>vK q,
  cK [30] Sd rfl fun e hT h=>MZ (h.1.1 e) ((B1.below hT).cell 16 rfl),
  cK [31] Sd rfl fun e _ h=>aY underlying34 (h.1.1 e),
  fW 3 Sd rfl fun e q=>vK q,
  cK [33] Sd rfl fun e hT h=>MZ (h.1.1 e) ((B2.below hT).cell 16 rfl),
  cK [34] Sd rfl fun e _ h=>aY underlying34 (h.1.1 e),
  cK [32,35] Sd rfl fun e _ h=>gC (h.1.1 e) (h.2.1.1 e),
  aP [29,36] Sd rfl fun h=>dA h.1 (fun c=>h.2.1.1 (tn c)),
  oW [(37,43)] [] Sd rfl fun _ _ _ h _=>dv aT h.1,
  fW 2 Sd rfl fun e q=>Ca q,
  cK [39] Sd rfl fun e hT h=>Tv (h.1.1 e) ((B1.below hT).cell 17 rfl),
  fW 3 Sd rfl fun e q=>Ca q,
  cK [41] Sd rfl fun e hT h=>Tv (h.1.1 e) ((B2.below hT).cell 17 rfl),
  oF [(40,46),(42,48)] [] Sd rfl i2 gU fun e _ _ _ h _=>dG e (gV (a2 (h.1.1 e) (h.2.1.1 e)) en17 (Sh m_1 m_2 m_c1 m_c2 _)),
  cK [43] Sd rfl fun e _ h=>cJ (h.1.1 e),
  aP [38,44] Sd rfl fun h=>dA h.1 (fun c=>h.2.1.1 (tn c)),
  oW [(45,51)] [] Sd rfl fun _ _ _ h _=>dv aT h.1,
  fW 2 Sd rfl fun e q=>vU q,
  cK [47] Sd rfl fun e hT h=>Qm (h.1.1 e) ((B1.below hT).cell 18 rfl),
  fW 3 Sd rfl fun e q=>vU q,
  cK [49] Sd rfl fun e hT h=>Qm (h.1.1 e) ((B2.below hT).cell 18 rfl),
  oF [(48,54),(50,56)] [] Sd rfl i2 gU fun e _ _ hT h _=>dG e (gV (a2 (h.1.1 e) (h.2.1.1 e)) en18 (h18 _ (aDu b3 hT))),
  cK [51] Sd rfl fun e _ h=>cJ (h.1.1 e),
  aP [46,52] Sd rfl fun h=>dA h.1 (fun c=>h.2.1.1 (tn c)),
  oW [(53,59)] [] Sd rfl fun _ _ _ h _=>dv aT h.1,
  fW 2 Sd rfl fun e q=>CI q,
  cK [55] Sd rfl fun e hT h=>Tl (h.1.1 e) ((B1.below hT).cell 19 rfl),
  fW 3 Sd rfl fun e q=>CI q,
  cK [57] Sd rfl fun e hT h=>Tl (h.1.1 e) ((B2.below hT).cell 19 rfl),
  oF [(56,62),(58,64)] [] Sd rfl i2 gU fun e _ _ _ h _=>dG e (gV (a2 (h.1.1 e) (h.2.1.1 e)) en19 (UZ s_1 s_2 s_c1 s_c2 _)),
  cK [59] Sd rfl fun e _ h=>cJ (h.1.1 e),
  aP [54,60] Sd rfl fun h=>dA h.1 (fun c=>h.2.1.1 (tn c)),
  oW [(61,67)] [] Sd rfl fun _ _ _ h _=>dv aT h.1,
  fW 2 Sd rfl fun e q=>Bz q,
  cK [63] Sd rfl fun e hT h=>SS (h.1.1 e) ((B1.below hT).cell 20 rfl),
  fW 3 Sd rfl fun e q=>Bz q,
  cK [65] Sd rfl fun e hT h=>SS (h.1.1 e) ((B2.below hT).cell 20 rfl),
  oF [(64,70),(66,72)] [] Sd rfl i2 gU fun e _ _ _ h _=>dG e (gV (a2 (h.1.1 e) (h.2.1.1 e)) en20 (Vc r_1 r_2 r_c1 r_c2 _)),
  cK [67] Sd rfl fun e _ h=>cJ (h.1.1 e),
  aP [62,68] Sd rfl fun h=>dA h.1 (fun c=>h.2.1.1 (tn c)),
  oW [(69,75)] [] Sd rfl fun _ _ _ h _=>dv aT h.1,
  fW 2 Sd rfl fun e q=>CF q,
  cK [71] Sd rfl fun e hT h=>Ek (h.1.1 e) ((B1.below hT).cell 21 rfl),
  fW 3 Sd rfl fun e q=>CF q,
  cK [73] Sd rfl fun e hT h=>Ek (h.1.1 e) ((B2.below hT).cell 21 rfl),
  oF [(72,78),(74,80)] [] Sd rfl i2 gU fun e _ _ _ h _=>dG e (gV (a2 (h.1.1 e) (h.2.1.1 e)) en21 (Sb f_1 f_2 f_c1 f_c2 _)),
  cK [75] Sd rfl fun e _ h=>cJ (h.1.1 e),
  aP [70,76] Sd rfl fun h=>dA h.1 (fun c=>h.2.1.1 (tn c)),
  oW [(77,83)] [] Sd rfl fun _ _ _ h _=>dv aT h.1,
  fW 2 Sd rfl fun e q=>Bt q,
  cK [79] Sd rfl fun e hT h=>DB (h.1.1 e) ((B1.below hT).cell 22 rfl),
  fW 3 Sd rfl fun e q=>Bt q,
  cK [81] Sd rfl fun e hT h=>DB (h.1.1 e) ((B2.below hT).cell 22 rfl),
  cK [80,82] Sd rfl fun e _ h=>Xx (h.1.1 e) (h.2.1.1 e),
  aP [78,83] Sd rfl fun h=>dA h.1 (fun c=>h.2.1.1 (tn c)),
  trivial⟩) ?_
 rintro g4 w4 k4 ⟨s90,-⟩ ⟨o2,o3,o4,-⟩
 have s2:g4 2=pt w.heap.size (0):=o2.trans rfl
 have b5:=aDu b3 k4
 have B1:=B1.below k4
 refine rM ((s90).trans (by simp)) (aG (aF (rg (bU (nx (aO (Al (aF (rg (aN aV rfl (sq (vK s2) (sq (MZ rfl (B1.cell 16 rfl)) ?_))))))))))))
 refine sq (aY underlying34 rfl) (iJ (.bool false) (eT rfl rfl) (by first | rfl | decide | simp) (nx (rM rfl (cI ?_))))
 repeat refine bN ?_
 exact dP (rg (bU (nx (aE (fO rfl ⟨_,rfl,b5,rfl⟩)))))
theorem Tj (n0 n1 n2 n3 n4 n5 n6 n7 n8 n9 n10 nw nq:Int) (p_1 j_1 b_1 o_1 m_1 n_1 s_1 r_1 f_1 p_2 j_2 b_2 o_2 m_2 n_2 s_2 r_2 f_2) (p_c1 j_c1 b_c1 o_c1 m_c1 n_c1 s_c1 r_c1 f_c1 p_c2 j_c2 b_c2 o_c2 m_c2 n_c2 s_c2 r_c2 f_c2) (dt:Bool) (w):cT 6 [.agg [zi n0,.slice p_1 (0) p_c1,zi n1,zi n2,zi n3,zi n4,zi n5,zi n6,zi n7,zi n8,zi n9,zi n10,zi nw,zi nq,.slice j_1 (0) j_c1,.slice b_1 (0) b_c1,.slice o_1 (0) o_c1,.slice m_1 (0) m_c1,.slice n_1 (0) n_c1,.slice s_1 (0) s_c1,.slice r_1 (0) r_c1,.slice f_1 (0) f_c1,.bool dt].toArray,.agg [zi n0,.slice p_2 (0) p_c2,zi n1,zi n2,zi n3,zi n4,zi n5,zi n6,zi n7,zi n8,zi n9,zi n10,zi nw,zi nq,.slice j_2 (0) j_c2,.slice b_2 (0) b_c2,.slice o_2 (0) o_c2,.slice m_2 (0) m_c2,.slice n_2 (0) n_c2,.slice s_2 (0) s_c2,.slice r_2 (0) r_c2,.slice f_2 (0) f_c2,.bool dt].toArray] w fun v _=>v=.bool true:=
 Qx n0 n1 n2 n3 n4 n5 n6 n7 n8 n9 n10 nw nq p_1 j_1 b_1 o_1 m_1 n_1 s_1 r_1 f_1 p_2 j_2 b_2 o_2 m_2 n_2 s_2 r_2 f_2 p_c1 j_c1 b_c1 o_c1 m_c1 n_c1 s_c1 r_c1 f_c1 p_c2 j_c2 b_c2 o_c2 m_c2 n_c2 s_c2 r_c2 f_c2 0 dt w fun W _=>PE n_1 n_2 n_c1 n_c2 W
theorem Ss (n0 n1 n2 n3 n4 n5 n6 n7 n8 n9 n10 nw nq:Int) (p_1 j_1 b_1 o_1 m_1 n_1 s_1 r_1 f_1 p_2 j_2 b_2 o_2 m_2 n_2 s_2 r_2 f_2) (p_c1 j_c1 b_c1 o_c1 m_c1 n_c1 s_c1 r_c1 f_c1 p_c2 j_c2 b_c2 o_c2 m_c2 n_c2 s_c2 r_c2 f_c2) (dt:Bool) (w) (hq1:Rd 3 w (.slice n_1 1 n_c1) 1 n_c1 ([(⟨true,true,0⟩:cN)].flatMap cN.cells)) (hq2:Rd 3 w (.slice n_2 1 n_c2) 1 n_c2 ([(⟨true,true,0⟩:cN)].flatMap cN.cells)):cT 6 [.agg [zi n0,.slice p_1 (0) p_c1,zi n1,zi n2,zi n3,zi n4,zi n5,zi n6,zi n7,zi n8,zi n9,zi n10,zi nw,zi nq,.slice j_1 (0) j_c1,.slice b_1 (0) b_c1,.slice o_1 (0) o_c1,.slice m_1 (0) m_c1,.slice n_1 (1) n_c1,.slice s_1 (0) s_c1,.slice r_1 (0) r_c1,.slice f_1 (0) f_c1,.bool dt].toArray,.agg [zi n0,.slice p_2 (0) p_c2,zi n1,zi n2,zi n3,zi n4,zi n5,zi n6,zi n7,zi n8,zi n9,zi n10,zi nw,zi nq,.slice j_2 (0) j_c2,.slice b_2 (0) b_c2,.slice o_2 (0) o_c2,.slice m_2 (0) m_c2,.slice n_2 (1) n_c2,.slice s_2 (0) s_c2,.slice r_2 (0) r_c2,.slice f_2 (0) f_c2,.bool dt].toArray] w fun v _=>v=.bool true:=
 Qx n0 n1 n2 n3 n4 n5 n6 n7 n8 n9 n10 nw nq p_1 j_1 b_1 o_1 m_1 n_1 s_1 r_1 f_1 p_2 j_2 b_2 o_2 m_2 n_2 s_2 r_2 f_2 p_c1 j_c1 b_c1 o_c1 m_c1 n_c1 s_c1 r_c1 f_c1 p_c2 j_c2 b_c2 o_c2 m_c2 n_c2 s_c2 r_c2 f_c2 1 dt w fun W k=>Tc n_1 n_2 n_c1 n_c2 W (hq1.below k) (hq2.below k)
def DI:ByteArray:=⟨#[20,1,0,1,0,0,1,0,0,0,0,0,0,199,41,36,47,153,128,113,50,0,2,0,0,0,0,1,1,1,0,0,0,0,0,41,71,14,53,227,224,72,58]⟩
def EC:ByteArray:=⟨#[20,1,0,1,0,0,1,0,0,0,0,0,0,199,41,36,47,153,128,113,50,0,2,0,0,0,0,1,1,1,0,0,0,0,0]⟩
def FC:ByteArray:=⟨#[1,0,1,0,0,1,0,0,0,0,0,0,199,41,36,47,153,128,113,50]⟩
def t12:ByteArray:=⟨#[1,0,1,0,0,1,0,0,0,0,0,0]⟩
def kV (pb jb bb ob mb nb sb rb fb:Option Addr) (pc jc bc oc mc nc sc rc fc:Nat):aX:=⟨⟨1,pb,pc,[],1,0,0,1,0,0,0,0,0,0⟩,0,1,jb,jc,[],bb,bc,[],ob,oc,[],mb,mc,[],nb,nc,[⟨true,true,0⟩],sb,sc,[],rb,rc,[],fb,fc,[],false⟩
theorem Ys (K:Nat->ByteArray) (pb jb bb ob mb nb sb rb fb) (pc jc bc oc mc nc sc rc fc):bG K (kV pb jb bb ob mb nb sb rb fb pc jc bc oc mc nc sc rc fc)=true:=by kernel_rfl
theorem XX: (⟨(kD EC.data.toList).toArray⟩:ByteArray)=DI:=by kernel_rfl
theorem Je: eB DI=some EC:=by kernel_rfl
theorem Ou: jG 20000 (some EC)=FC:=by kernel_rfl
theorem Jj: eB FC=some t12:=by kernel_rfl
theorem eO1: MJ (some EC)=some ⟨#[0,2,0,0,0,0,1,1,1,0,0,0,0,0]⟩:=by kernel_rfl
theorem eO2: MB (some EC)=some ⟨#[2,0,0,0,0,1,1,1,0,0,0,0,0]⟩:=by kernel_rfl
theorem eO3: Ii (some EC)=some ⟨#[0,0,0,0,1,1,1,0,0,0,0,0]⟩:=by kernel_rfl
theorem eO4: ZJ (some EC)=some ⟨#[0,0,0,1,1,1,0,0,0,0,0]⟩:=by kernel_rfl
theorem eO5: dO5 (some EC)=some ⟨#[0,0,1,1,1,0,0,0,0,0]⟩:=by kernel_rfl
theorem eO6: YB (some EC)=some ⟨#[0,1,1,1,0,0,0,0,0]⟩:=by kernel_rfl
theorem eO7: YI (some EC)=some ⟨#[1,1,1,0,0,0,0,0]⟩:=by kernel_rfl
theorem eO8: YE (some EC)=some ⟨#[0,0,0,0]⟩:=by kernel_rfl
theorem eO9: YG (some EC)=some ⟨#[0,0,0]⟩:=by kernel_rfl
theorem eO10: Li (some EC)=some ⟨#[0,0]⟩:=by kernel_rfl
theorem eO11: Jw (some EC)=some ⟨#[0]⟩:=by kernel_rfl
theorem eO12: dO12 (some EC)=some ⟨#[]⟩:=by kernel_rfl
theorem Wj {x:aZ} (h:BV t12 x):∃ b c,x=⟨1,b,c,[],1,0,0,1,0,0,0,0,0,0⟩:=by
 obtain ⟨l,b,c,s3,rfl,h2⟩:=h
 obtain ⟨rfl,rfl⟩:=h2 (by kernel_rfl)
 exact ⟨b,c,by kernel_rfl⟩
theorem Oz (b) (c:Nat):bH ⟨1,b,c,[],1,0,0,1,0,0,0,0,0,0⟩=true:=by kernel_rfl
theorem Yk (b) (c:Nat):AH ⟨1,b,c,[],1,0,0,1,0,0,0,0,0,0⟩=t12.data.toList:=by kernel_rfl
theorem XN: (⟨(kD t12.data.toList).toArray⟩:ByteArray)=FC:=by kernel_rfl
theorem Pg (b) (c:Nat):dW ⟨1,b,c,[],1,0,0,1,0,0,0,0,0,0⟩=FC:=by
 unfold dW;rw [Oz];simp only [if_true];rw [Yk];exact XN
theorem yG1 (K:Nat->ByteArray) (pb jb bb ob mb nb sb rb fb) (pc jc bc oc mc nc sc rc fc):Vj (kV pb jb bb ob mb nb sb rb fb pc jc bc oc mc nc sc rc fc)=[20,1,0,1,0,0,1,0,0,0,0,0,0,199,41,36,47,153,128,113,50]:=by
 unfold Vj;rw [show (kV pb jb bb ob mb nb sb rb fb pc jc bc oc mc nc sc rc fc).site=⟨1,pb,pc,[],1,0,0,1,0,0,0,0,0,0⟩ from rfl,Pg];kernel_rfl
theorem yG2 (K:Nat->ByteArray) (pb jb bb ob mb nb sb rb fb) (pc jc bc oc mc nc sc rc fc):Vq (kV pb jb bb ob mb nb sb rb fb pc jc bc oc mc nc sc rc fc)=[20,1,0,1,0,0,1,0,0,0,0,0,0,199,41,36,47,153,128,113,50,0,2]:=by
 unfold Vq;rw [yG1 K pb jb bb ob mb nb sb rb fb pc jc bc oc mc nc sc rc fc];kernel_rfl
theorem yG3 (K:Nat->ByteArray) (pb jb bb ob mb nb sb rb fb) (pc jc bc oc mc nc sc rc fc):Vi K (kV pb jb bb ob mb nb sb rb fb pc jc bc oc mc nc sc rc fc)=[20,1,0,1,0,0,1,0,0,0,0,0,0,199,41,36,47,153,128,113,50,0,2,0]:=by
 unfold Vi;rw [yG2 K pb jb bb ob mb nb sb rb fb pc jc bc oc mc nc sc rc fc];kernel_rfl
theorem yG4 (K:Nat->ByteArray) (pb jb bb ob mb nb sb rb fb) (pc jc bc oc mc nc sc rc fc):RX K (kV pb jb bb ob mb nb sb rb fb pc jc bc oc mc nc sc rc fc)=[20,1,0,1,0,0,1,0,0,0,0,0,0,199,41,36,47,153,128,113,50,0,2,0,0]:=by
 unfold RX;rw [yG3 K pb jb bb ob mb nb sb rb fb pc jc bc oc mc nc sc rc fc];kernel_rfl
theorem yG5 (K:Nat->ByteArray) (pb jb bb ob mb nb sb rb fb) (pc jc bc oc mc nc sc rc fc):SW K (kV pb jb bb ob mb nb sb rb fb pc jc bc oc mc nc sc rc fc)=[20,1,0,1,0,0,1,0,0,0,0,0,0,199,41,36,47,153,128,113,50,0,2,0,0,0]:=by
 unfold SW;rw [yG4 K pb jb bb ob mb nb sb rb fb pc jc bc oc mc nc sc rc fc];kernel_rfl
theorem yG6 (K:Nat->ByteArray) (pb jb bb ob mb nb sb rb fb) (pc jc bc oc mc nc sc rc fc):Vh K (kV pb jb bb ob mb nb sb rb fb pc jc bc oc mc nc sc rc fc)=[20,1,0,1,0,0,1,0,0,0,0,0,0,199,41,36,47,153,128,113,50,0,2,0,0,0,0]:=by
 unfold Vh;rw [yG5 K pb jb bb ob mb nb sb rb fb pc jc bc oc mc nc sc rc fc];kernel_rfl
theorem yG7 (K:Nat->ByteArray) (pb jb bb ob mb nb sb rb fb) (pc jc bc oc mc nc sc rc fc):SA K (kV pb jb bb ob mb nb sb rb fb pc jc bc oc mc nc sc rc fc)=[20,1,0,1,0,0,1,0,0,0,0,0,0,199,41,36,47,153,128,113,50,0,2,0,0,0,0,1,1,1,0]:=by
 unfold SA;rw [yG6 K pb jb bb ob mb nb sb rb fb pc jc bc oc mc nc sc rc fc];kernel_rfl
theorem yG8 (K:Nat->ByteArray) (pb jb bb ob mb nb sb rb fb) (pc jc bc oc mc nc sc rc fc):TJ K (kV pb jb bb ob mb nb sb rb fb pc jc bc oc mc nc sc rc fc)=[20,1,0,1,0,0,1,0,0,0,0,0,0,199,41,36,47,153,128,113,50,0,2,0,0,0,0,1,1,1,0,0]:=by
 unfold TJ;rw [yG7 K pb jb bb ob mb nb sb rb fb pc jc bc oc mc nc sc rc fc];kernel_rfl
theorem yG9 (K:Nat->ByteArray) (pb jb bb ob mb nb sb rb fb) (pc jc bc oc mc nc sc rc fc):Sn K (kV pb jb bb ob mb nb sb rb fb pc jc bc oc mc nc sc rc fc)=[20,1,0,1,0,0,1,0,0,0,0,0,0,199,41,36,47,153,128,113,50,0,2,0,0,0,0,1,1,1,0,0,0]:=by
 unfold Sn;rw [yG8 K pb jb bb ob mb nb sb rb fb pc jc bc oc mc nc sc rc fc];kernel_rfl
theorem yGa (K:Nat->ByteArray) (pb jb bb ob mb nb sb rb fb) (pc jc bc oc mc nc sc rc fc):SL K (kV pb jb bb ob mb nb sb rb fb pc jc bc oc mc nc sc rc fc)=[20,1,0,1,0,0,1,0,0,0,0,0,0,199,41,36,47,153,128,113,50,0,2,0,0,0,0,1,1,1,0,0,0,0]:=by
 unfold SL;rw [yG9 K pb jb bb ob mb nb sb rb fb pc jc bc oc mc nc sc rc fc];kernel_rfl
theorem yGb (K:Nat->ByteArray) (pb jb bb ob mb nb sb rb fb) (pc jc bc oc mc nc sc rc fc):Nq K (kV pb jb bb ob mb nb sb rb fb pc jc bc oc mc nc sc rc fc)=[20,1,0,1,0,0,1,0,0,0,0,0,0,199,41,36,47,153,128,113,50,0,2,0,0,0,0,1,1,1,0,0,0,0,0]:=by
 unfold Nq;rw [yGa K pb jb bb ob mb nb sb rb fb pc jc bc oc mc nc sc rc fc];kernel_rfl
theorem Wy (K:Nat->ByteArray) (pb jb bb ob mb nb sb rb fb) (pc jc bc oc mc nc sc rc fc):Nq K (kV pb jb bb ob mb nb sb rb fb pc jc bc oc mc nc sc rc fc)=EC.data.toList:=by rw [yGb K pb jb bb ob mb nb sb rb fb pc jc bc oc mc nc sc rc fc];kernel_rfl
theorem putG (K:Nat->ByteArray) (pb jb bb ob mb nb sb rb fb) (pc jc bc oc mc nc sc rc fc):uE K (kV pb jb bb ob mb nb sb rb fb pc jc bc oc mc nc sc rc fc)=DI:=by
 unfold uE;rw [aEc (Ys K _ _ _ _ _ _ _ _ _ _ _ _ _ _ _ _ _ _),Wy];exact XX
theorem Mr: ¬ Ez (jG 20000 (some EC)):=by
 rw [Ou]
 rintro (h | ⟨t,x,h1,h2,h3⟩)
 ·rw [Jj] at h;cases h
 ·rw [Jj] at h1;cases h1
  obtain ⟨b,c,rfl⟩:=Wj h2
  exact h3 ⟨Oz b c,Pg b c⟩
theorem Cn {Bad:Option ByteArray->Prop} {nxt:Option ByteArray->Option ByteArray} {s:Option ByteArray} (h1:(aB s).isSome=true) (h2:(fG s).toNat=0):¬ kT Bad nxt s:=by
 rintro (h | ⟨i,hi,_⟩)
 ·rw [h] at h1;cases h1
 ·rw [h2] at hi;omega
theorem NU: ¬ EG (some EC):=by
 rintro (h | h | h | h | h | h | h | h | h | h | h | h | h)
 ·rw [eO1] at h;cases h
 ·exact Mr h
 ·rw [eO2] at h;cases h
 ·rw [eO3] at h;cases h
 ·rw [eO3] at h;exact Cn (by kernel_rfl) (by kernel_rfl) h
 ·rw [eO4] at h;exact Cn (by kernel_rfl) (by kernel_rfl) h
 ·rw [eO5] at h;exact Cn (by kernel_rfl) (by kernel_rfl) h
 ·rw [eO6] at h;exact Cn (by kernel_rfl) (by kernel_rfl) h
 ·rw [eO7] at h
  rcases h with h | ⟨i,hi,h⟩
  ·exact absurd h (by rw [show aB (some ⟨#[1,1,1,0,0,0,0,0]⟩)=some ⟨#[1,1,0,0,0,0,0]⟩ from by kernel_rfl];simp)
  ·have e:(fG (some ⟨#[1,1,1,0,0,0,0,0]⟩)).toNat=1:=by kernel_rfl
   rw [e] at hi
   obtain rfl:i=0:=by omega
   exact absurd h (by rw [show kX (pP kX 0 (aB (some ⟨#[1,1,1,0,0,0,0,0]⟩)))=some ⟨#[0,0,0,0]⟩ from by kernel_rfl];simp)
 ·rw [eO8] at h;exact Cn (by kernel_rfl) (by kernel_rfl) h
 ·rw [eO9] at h;exact Cn (by kernel_rfl) (by kernel_rfl) h
 ·rw [eO10] at h;exact Cn (by kernel_rfl) (by kernel_rfl) h
 ·rw [eO12] at h;cases h
theorem IX {α:Type} {l:List α} {s:Option ByteArray} (h:l.length=(fG s).toNat) (h2:(fG s).toNat=0):l=[]:=aAt (h.trans h2)
theorem node1: CH (pP kX 0 (aB (some ⟨#[1,1,1,0,0,0,0,0]⟩)))=⟨true,true,0⟩:=by kernel_rfl
theorem DH {y:aX} (h:SK (some EC) y):∃ pb jb bb ob mb nb sb rb fb pc jc bc oc mc nc sc rc fc,y=kV pb jb bb ob mb nb sb rb fb pc jc bc oc mc nc sc rc fc:=by
 obtain ⟨site,now,next,jb,jc,jobs,bb,bc,bufs,ob,oc,pools,mb,mc,moves,nb,nc,nodes,sb,sc,shares,rb,rc,rows,fb,fc,faults,dirty⟩:=y
 obtain ⟨hs,h1,h2,j0,j1,j2,j3,j4,j5,j6,j7,x3,x4,x5,x6,x7,hd⟩:=h
 simp only at hs h1 h2 j0 j1 j2 j3 j4 j5 j6 j7 x4 hd
 rw [Ou] at hs
 obtain ⟨t,hs1,hs2,_⟩:=hs
 rw [Jj] at hs1;cases hs1
 obtain ⟨pb,pc,rfl⟩:=Wj hs2
 rw [eO3] at j0
 obtain rfl:=IX j0 (by kernel_rfl)
 rw [eO4] at j1
 obtain rfl:=IX j1 (by kernel_rfl)
 rw [eO5] at j2
 obtain rfl:=IX j2 (by kernel_rfl)
 rw [eO6] at j3
 obtain rfl:=IX j3 (by kernel_rfl)
 rw [eO8] at j5
 obtain rfl:=IX j5 (by kernel_rfl)
 rw [eO9] at j6
 obtain rfl:=IX j6 (by kernel_rfl)
 rw [eO10] at j7
 obtain rfl:=IX j7 (by kernel_rfl)
 rw [eO7] at j4 x4
 have e4:(fG (some ⟨#[1,1,1,0,0,0,0,0]⟩)).toNat=1:=by kernel_rfl
 rw [e4] at j4
 have e5:nodes=[⟨true,true,0⟩]:=by
  obtain ⟨a,rfl⟩:=List.length_eq_one_iff.1 j4
  have:=x4 0 (by simp)
  simp only [List.getElem_cons_zero] at this
  rw [this,node1]
 subst e5
 rw [eO1] at h1;rw [eO2] at h2;rw [eO11] at hd
 have e1:now=0:=h1.trans (by kernel_rfl)
 have e2:next=1:=h2.trans (by kernel_rfl)
 have e3:dirty=false:=hd.trans (by kernel_rfl)
 subst e1 e2 e3
 exact ⟨pb,jb,bb,ob,mb,nb,sb,rb,fb,pc,jc,bc,oc,mc,nc,sc,rc,fc,rfl⟩
theorem NE (K:Nat->ByteArray):¬ NZ K DI:=by
 rintro (h | ⟨t,h,h2⟩)
 ·rw [Je] at h;cases h
 ·rw [Je] at h;cases h
  rcases h2 with h2 | ⟨y,h2,_,h3⟩
  ·exact NU h2
  ·obtain ⟨pb,jb,bb,ob,mb,nb,sb,rb,fb,pc,jc,bc,oc,mc,nc,sc,rc,fc,rfl⟩:=DH h2
   exact h3 ⟨Ys K _ _ _ _ _ _ _ _ _ _ _ _ _ _ _ _ _ _,putG K _ _ _ _ _ _ _ _ _ _ _ _ _ _ _ _ _ _⟩
theorem Yw (q) (w) (h:Bk q [.bool true,.bool true,zi 0] 128 w):Rd 3 w (.slice (some ⟨q,0,none⟩) 1 1) 1 1 ([(⟨true,true,0⟩:cN)].flatMap cN.cells):=
 ⟨rfl,aDl _,by unfold maxLen;omega,.inr ⟨q,0,rfl,h.lt,h.range⟩⟩
theorem Rk (q) (w) (h:Bk q [.bool true,.bool true,zi 0] 128 w):(jV q).At w:=
 ⟨GP w,aEe _ w,fun _ h=>(by cases h),aEe _ w,fun _ h=>(by cases h),aEe _ w,fun _ h=>(by cases h),aEe _ w,Yw q w h,aEe _ w,aEe _ w,aEe _ w⟩
theorem Mc (K:Nat->ByteArray) (q):(jV q).Fit K:=by
 constructor <;> simp [jV,jO,Dy]
 exact ⟨by decide,by decide⟩
theorem Ti (K:Nat->ByteArray) (q):mS K (jV q):=fun _ h=>(by cases h)
theorem MK (K:Nat->ByteArray) (q) (w) (hE:rI K w) (hPh:nE w) (ha:(jV q).At w):cT 7 [.agg (aX.cells (jV q)).toArray] w fun v _=>v=.tuple #[.string DI,zi 0]:=
 (Km K (jV q) w hE hPh (Mc K q) (Ti K q) ha).mono fun v W _ h=>by
  rw [h,show uE K (jV q)=DI from putG K none none none none none (some ⟨q,0,none⟩) none none none 0 0 0 0 0 1 0 0 0,show bG K (jV q)=true from Ys K none none none none none (some ⟨q,0,none⟩) none none none 0 0 0 0 0 1 0 0 0];rfl
theorem Nk (K:Nat->ByteArray) (w) (hE:rI K w) (hPh:nE w):cT 5 [.string DI] w fun v W=>∃ pb jb bb ob mb nb sb rb fb pc jc bc oc mc nc sc rc fc,v=.tuple #[.agg (aX.cells (kV pb jb bb ob mb nb sb rb fb pc jc bc oc mc nc sc rc fc)).toArray,zi 0]/\Rd 3 W (.slice nb 1 nc) 1 nc ([(⟨true,true,0⟩:cN)].flatMap cN.cells):=
 (RG K DI w hE hPh (aA1 rfl)).mono fun v W _ h=>by
  rcases h with ⟨_,h⟩ | ⟨y,rfl,_,_,ha,_,_,⟨t,ht,hd⟩⟩
  ·exact absurd h (NE K)
  ·rw [Je] at ht;cases ht
   obtain ⟨pb,jb,bb,ob,mb,nb,sb,rb,fb,pc,jc,bc,oc,mc,nc,sc,rc,fc,rfl⟩:=DH hd
   exact ⟨pb,jb,bb,ob,mb,nb,sb,rb,fb,pc,jc,bc,oc,mc,nc,sc,rc,fc,rfl,ha.nodes⟩
theorem get_x (K:Nat->ByteArray) (w) (hE:rI K w) (hPh:nE w):cT 5 [.string ⟨#[120]⟩] w fun v _=>v=.tuple #[.agg BO.toArray,zi 290]:=
 (RG K ⟨#[120]⟩ w hE hPh (aA1 rfl)).mono fun v W _ h=>by
  rcases h with ⟨h,_⟩ | ⟨y,_,_,_,_,_,_,⟨t,ht,_⟩⟩
  ·exact h
  ·rw [show eB ⟨#[120]⟩=none from by kernel_rfl] at ht;cases ht
def RM:aX:=⟨⟨0,none,0,[],0,0,0,0,0,0,0,0,0,0⟩,0,0,none,0,[],none,0,[],none,0,[],none,0,[],none,0,[],none,0,[],none,0,[],none,0,[],false⟩
theorem Qz (K:Nat->ByteArray) (w) (hE:rI K w) (hPh:nE w):cT 7 [.agg BO.toArray] w fun v _=>v=.tuple #[.string ⟨#[]⟩,zi 290]:=
 (Km K RM w hE hPh (by constructor <;> simp [RM,jO];constructor <;> simp [jO]) (fun _ h=>(by cases h)) ⟨aEe _ w,aEe _ w,fun _ h=>(by cases h),aEe _ w,fun _ h=>(by cases h),aEe _ w,fun _ h=>(by cases h),aEe _ w,aEe _ w,aEe _ w,aEe _ w,aEe _ w⟩).mono fun v W _ h=>by
  have e:bG K RM=false:=by kernel_rfl
  rw [h];unfold uE;rw [e];rfl
theorem Hy {g:Nat->Value} {ty:TypeId} {a1:Int} (h0:ev n g x0=zi a1):aL n g ⟨dd,.build 25 #[(0,x0)],ty,pos,aft,gd⟩ w (.agg [zi a1,aV,aV].toArray):=
 iA (ps:=[(0,x0)]) (by simp only [aC3,aDb,h0];kernel_rfl)
theorem lV {g:Nat->Value} {ty:TypeId} {a1:Int} {a2:Int} {a3:Int} {a4:Int} {a5:Int} (h0:ev n g x0=zi a1) (h1:ev n g x1=.agg [zi a2,zi a3,zi a4].toArray) (h2:ev n g x2=zi a5):aL n g ⟨dd,.build 29 #[(0,x0),(2,x1),(3,x2)],ty,pos,aft,gd⟩ w (.agg [zi a1,cP,zi a2,zi a3,zi a4,zi a5,aV,aV,aV,aV,aV,aV].toArray):=
 iA (ps:=[(0,x0),(2,x1),(3,x2)]) (by simp only [aC3,aDb,h0,h1,h2];kernel_rfl)
theorem Ky (w):cT 9 [] w fun v W=>∃ q,v=.agg (aX.cells (jV q)).toArray/\(jV q).At W:=by
 refine aJ (n:=10) func9 rfl ntmps9 (aA1 rfl) (rg (eA (cs:=uC) zeroValue41 rfl fun w1 B1 k1 z1 =>?_))
 have leB1:=aDl w.heap.size
 refine nx (rg (sq (Hy rfl) (sq (lV rfl rfl rfl) ?_)))
 have hlq0:=B1.lt
 refine cE en39 (a1 rfl) (Yj _) ?_
 rintro v2 w2 k2 ⟨qn,rfl,hqn,hBn⟩
 have b3:=aDu k1 k2
 have B1:=B1.below k2
 refine aN (.tuple #[.agg (aX.cells (jV qn)).toArray,aV]) rfl (sq (dT rfl rfl) (sq (dT rfl rfl) (eA (cs:=uC) zeroValue41 rfl fun w4 B4 k4 z4 =>?_)))
 have nB1_B4:=aC8 B1.lt
 have nhBn_B4:=aC8 hBn.lt
 have leB4:=b3.size
 have b5:=aDu b3 k4
 have B1:=B1.below k4
 have hBn:=hBn.below k4
 refine bR (vs:=(aX.cells (jV qn))) B4 sizeOf41 rfl rfl rfl rfl fun w6 B4n O6 z6 =>?_
 replace B4:=B4n
 have b7:=aS.toBelow O6 b5 b5.size leB4
 have B1:=B1.only O6 nB1_B4
 have hBn:=hBn.only O6 nhBn_B4
 refine aW aV rfl (nx (rg (sq (BH rfl B4.range rfl) (bR (vs:=(aX.cells (jV qn))) B1 sizeOf41 rfl rfl rfl rfl fun w8 B1n O8 z8 =>?_))))
 replace B1:=B1n
 have b9:=aS.toBelow O8 b7 b7.size leB1
 have hBn:=hBn.only O8 (by omega)
 exact nx (aE (tY (rW rfl rfl (vZ (cs:=aX.cells (jV qn)) isAgg41 sizeOf41 B1)) ⟨_,rfl,b9,qn,rfl,Rk qn _ hBn⟩))
theorem MI (pb jb bb ob mb nb sb rb fb) (pc jc bc oc mc nc sc rc fc) (q) (w) (h1:Rd 3 w (.slice nb 1 nc) 1 nc ([(⟨true,true,0⟩:cN)].flatMap cN.cells)) (h2:(jV q).At w):cT 6 [.agg (aX.cells (kV pb jb bb ob mb nb sb rb fb pc jc bc oc mc nc sc rc fc)).toArray,.agg (aX.cells (jV q)).toArray] w fun v _=>v=.bool true:=
 Ss 1 1 0 0 1 0 0 0 0 0 0 0 1 pb jb bb ob mb nb sb rb fb none none none none none (some ⟨q,0,none⟩) none none none pc jc bc oc mc nc sc rc fc 0 0 0 0 0 1 0 0 0 false w h1 h2.nodes
theorem Jm (K:Nat->ByteArray) (w) (hE:rI K w) (hPh:nE w):cT 4 [] w fun v _=>v=.bool true:=by
 refine aJ (n:=52) func4 rfl ntmps4 (aA1 rfl) (rg (aW (.bool false) rfl (nx (rg (cE en9 rfl (Ky _) ?_)))))
 rintro v1 w1 k1 ⟨qp,rfl,hP⟩
 refine cE en7 (a1 rfl) (MK K qp _ (hE.below k1) (hPh.below k1) (hP.below (aDt _ _))) ?_
 rintro _ w2 k2 rfl
 have b3:=aDu k1 k2
 refine aN (.tuple #[.string DI,aV]) rfl (sq (dT rfl rfl) (sq (dT rfl rfl) (aW (.string DI) rfl (aW aV rfl (nx (rg (aN (.string DI) rfl (cE en5 (a1 rfl) (Nk K _ (hE.below b3) (hPh.below b3)) ?_))))))))
 rintro v4 w4 k4 ⟨pb,jb,bb,ob,mb,nb,sb,rb,fb,pc,jc,bc,oc,mc,nc,sc,rc,fc,rfl,hN⟩
 have b5:=aDu b3 k4
 have b6:=aDu k2 k4
 refine aN (.tuple #[.agg (aX.cells (kV pb jb bb ob mb nb sb rb fb pc jc bc oc mc nc sc rc fc)).toArray,aV]) rfl (sq (dT rfl rfl) (sq (dT rfl rfl) (eA (cs:=uC) zeroValue41 rfl fun w7 B7 k7 z7 =>?_)))
 have leB7:=b5.size
 have leB7_w1:=b6.size
 have leB7_w4:=aDl w4.heap.size
 have b8:=aDu b5 k7
 have b9:=aDu b6 k7
 refine bR (vs:=(aX.cells (kV pb jb bb ob mb nb sb rb fb pc jc bc oc mc nc sc rc fc))) B7 sizeOf41 rfl rfl rfl rfl fun w10 B7n O10 z10 =>?_
 replace B7:=B7n
 have b11:=aS.toBelow O10 b8 b8.size leB7
 have b12:=aS.toBelow O10 b9 b9.size leB7_w1
 have b13:=aS.toBelow O10 k7 k7.size leB7_w4
 refine aW aV rfl (nx (rg (cE en5 (a1 rfl) (get_x K _ (hE.below b11) (hPh.below b11)) ?_)))
 rintro _ w14 k14 rfl
 have b15:=aDu b11 k14
 have B7:=B7.below k14
 have b16:=aDu b12 k14
 have b17:=aDu b13 k14
 refine aN (.tuple #[.agg uC.toArray,zi (290)]) rfl (sq (dT rfl rfl) (sq (dT rfl rfl) (eA (cs:=uC) zeroValue41 rfl fun w18 B18 k18 z18 =>?_)))
 have nB7_B18:=aC8 B7.lt
 have leB18:=b15.size
 have leB18_w1:=b16.size
 have leB18_w4:=b17.size
 have b19:=aDu b15 k18
 have B7:=B7.below k18
 have b21:=aDu b17 k18
 refine bR (vs:=uC) B18 sizeOf41 rfl rfl rfl rfl fun w22 B18n O22 z22 =>?_
 replace B18:=B18n
 have b23:=aS.toBelow O22 b19 b19.size leB18
 have B7:=B7.only O22 nB7_B18
 have b25:=aS.toBelow O22 b21 b21.size leB18_w4
 refine aW (zi (290)) rfl (nx (rg (sq (Qh ) (cE en7 (a1 rfl) (Qz K _ (hE.below b23) (hPh.below b23)) ?_))))
 rintro _ w26 k26 rfl
 have b27:=aDu b23 k26
 have B7:=B7.below k26
 have b29:=aDu b25 k26
 refine aN (.tuple #[.string (⟨#[]⟩),zi (290)]) rfl (sq (dT rfl rfl) (sq (dT rfl rfl) (aW (.string (⟨#[]⟩)) rfl (aW (zi (290)) rfl (nx ?_)))))
 refine sD (_::_::_::_::_::_::_::_::_::_::_::_::_::(GV (((decide ((0:Int)=(0:Int)))&&(decide (((DI).size:Int)=(43:Int))))&&(decide ((0:Int)=(0:Int)))) (fun v W=>∃ q,v=.agg (aX.cells (jV q)).toArray/\(jV q).At W))::(GV (((decide ((0:Int)=(0:Int)))&&(decide (((DI).size:Int)=(43:Int))))&&(decide ((0:Int)=(0:Int)))) (vE (.bool true)))::_::_::_::_::_::_::_::_::_::_::[]) [(24,0)] [] rfl ⟨aA,aA,aA,aD aA,aD aA,aD aA,aA,aA,aD aA,aD aA,aA,aA,aD aA,aD (fun v a b ⟨q,e,h⟩ k=>⟨q,e,h.below k⟩),aD aA,aA,aA,aD aA,aD aA,aA,aA,aD aA,aD aA,aA,aA,trivial⟩ (by kernel_rfl) rfl rfl (fun Sd=>⟨
  bF Sd rfl rfl,
  aP [0] Sd rfl fun h=>eZ h.1 rfl,
  oW [(1,29)] [] Sd rfl fun _ _ _ h _=>dv aT h.1,
  iP Sd rfl rfl,
  dM [3] Sd rfl fun e _ h=>wD underlying9 (h.1.1 e),
  dM [4] Sd rfl fun e _ h=>eZ (h.1.1 e) rfl,
  aP [2,5] Sd rfl fun h=>cG h.1 (fun c=>h.2.1.1 c),
  oW [(6,34)] [] Sd rfl fun _ _ _ h _=>dv aT h.1,
  iP Sd rfl rfl,
  dM [8] Sd rfl fun e _ h=>eZ (h.1.1 e) rfl,
  aP [7,9] Sd rfl fun h=>cG h.1 (fun c=>h.2.1.1 c),
  oW [(10,38)] [] Sd rfl fun _ _ _ h _=>dv aT h.1,
  oT [] [3] Sd rfl i2 gU fun e _ _ hT _ q=>dv (BH q.1 ((B7.below hT).range) rfl) (mY e rfl),
  oT [] [] Sd rfl i2 gU fun e _ _ _ _ _=>dG e (gV rfl en9 (Ky _)),
  oT [(12,40),(13,41)] [] Sd rfl i2 gU fun e _ _ hT h _=>dG e (by obtain ⟨qx,ex,hx⟩:=h.2.1.1 e;exact gV (a2 (h.1.1 e) ex) en6 (MI pb jb bb ob mb nb sb rb fb pc jc bc oc mc nc sc rc fc qx _ (Rd.below hN (aDu b29 hT)) hx)),
  aP [11,14] Sd rfl fun h=>cG h.1 (fun c=>h.2.1.1 c),
  oW [(15,43)] [] Sd rfl fun _ _ _ h _=>dv aT h.1,
  iP Sd rfl rfl,
  dM [17] Sd rfl fun e _ h=>eZ (h.1.1 e) rfl,
  aP [16,18] Sd rfl fun h=>cG h.1 (fun c=>h.2.1.1 c),
  oW [(19,47)] [] Sd rfl fun _ _ _ h _=>dv aT h.1,
  iP Sd rfl rfl,
  dM [21] Sd rfl fun e _ h=>eZ (h.1.1 e) rfl,
  aP [20,22] Sd rfl fun h=>cG h.1 (fun c=>h.2.1.1 c),
  oW [(23,51)] [] Sd rfl fun _ _ _ h _=>dv kC h.1,
  trivial⟩) ?_
 rintro g30 w30 k30 ⟨s0,-⟩ -
 have b31:=aDu b27 k30
 exact aE (fO rfl ⟨_,rfl,b31,s0.trans (aD7 Value.bool (by kernel_rfl))⟩)
theorem Ni (w):cT 6 [.agg BO.toArray,.agg BO.toArray] w fun v _=>v=.bool true:=
 Tj 0 0 0 0 0 0 0 0 0 0 0 0 0 none none none none none none none none none none none none none none none none none none 0 0 0 0 0 0 0 0 0 0 0 0 0 0 0 0 0 0 false w
theorem OH (K:Nat->ByteArray) (y) (w) (hE:rI K w) (hPh:nE w) (hy:y.Fit K) (ha:y.At w) (hc:bG K y=true):cT 8 [.agg (aX.cells y).toArray] w fun v _=>v=zi 0:=
 (CE K y w hE hPh hy ha).mono fun v W _ h=>by rw [h,hc];rfl
theorem XI (K:Nat->ByteArray) (y) (s) (w) (hE:rI K w) (hPh:nE w) (hy:y.Fit K) (hw:mS K y) (ha:y.At w) (hc:bG K y=true) (hs:uE K y=s):cT 7 [.agg (aX.cells y).toArray] w fun v _=>v=.tuple #[.string s,zi 0]:=
 (Km K y w hE hPh hy hw ha).mono fun v W _ h=>by rw [h,hc,hs];rfl
theorem law_3 (K:Nat->ByteArray) (s) (w) (hE:rI K w) (hPh:nE w):cT 3 [.string s] w fun v _=>v=.bool true:=by
 refine aJ (n:=48) func3 rfl ntmps3 (aA1 rfl) (rg (aW (.bool false) rfl (nx (aF (rg (aN (.string s) rfl (sq (wD underlying9 rfl) (iJ (.bool (decide ((5000:Int)<((s).size:Int)))) (gH rfl rfl) (by first | rfl | decide | simp) (nx ?_)))))))))
 refine cd rfl (fun c1=>?_) (fun c1=>?_)
 ·
  refine rg (cE en4 rfl (Jm K _ hE hPh) ?_)
  rintro _ w2 k2 rfl
  exact aW (.bool true) rfl (nx (aE (fO (fn:=Tryz.f3) (R:=fun e W=>∃ v,e=.returned v/\Below w.heap.size w W/\v=.bool true) rfl ⟨_,rfl,k2,rfl⟩)))
 ·
  refine aG (rg (aN (.string s) rfl (cE en5 (a1 rfl) (RG K s _ hE hPh (by have:=aBe c1;omega)) ?_)))
  rintro v3 w3 k3 (hsp3 | hsp3)
  ·
   obtain ⟨rfl,-⟩:=hsp3
   refine aN (.tuple #[.agg uC.toArray,zi (290)]) rfl (sq (dT rfl rfl) (sq (dT rfl rfl) (eA (cs:=uC) zeroValue41 rfl fun w4 B4 k4 z4 =>?_)))
   have leB4:=k3.size
   have b5:=aDu k3 k4
   refine bR (vs:=uC) B4 sizeOf41 rfl rfl rfl rfl fun w6 B4n O6 z6 =>?_
   replace B4:=B4n
   have b7:=aS.toBelow O6 b5 b5.size leB4
   refine aW (zi (290)) rfl (nx (aF (rg (aN (zi (290)) rfl (iJ (.bool true) (gC rfl rfl) (by first | rfl | decide | simp) (nx (Ns rfl (rg (aN (zi (290)) rfl (iJ (.bool true) (eZ rfl rfl) (by first | rfl | decide | simp) (aN (.bool true) rfl (BQ (.agg (uC).toArray) rfl rfl (BH rfl B4.range rfl) (by first | rfl | decide | simp) ?_))))))))))))
   refine BQ (.agg uC.toArray) rfl rfl (Qh ) (by first | rfl | decide | simp) (QZ (caps:=[]) rfl rfl en6 rfl (ac (a2 rfl rfl)) (Ni _) ?_)
   rintro _ w8 k8 rfl
   have b9:=aDu b7 k8
   refine iJ (.bool true) (uK rfl) rfl (aN (.bool true) rfl (QZ (caps:=[]) rfl rfl en4 rfl (ac rfl) (Jm K _ (hE.below b9) (hPh.below b9)) ?_))
   rintro _ w10 k10 rfl
   have b11:=aDu b9 k10
   exact iJ (.bool true) (uK rfl) rfl (aW (.bool true) rfl (nx (aE (fO (fn:=Tryz.f3) (R:=fun e W=>∃ v,e=.returned v/\Below w.heap.size w W/\v=.bool true) rfl ⟨_,rfl,b11,rfl⟩))))
  ·
   obtain ⟨y,rfl,hy,hw,ha,hc,hs,-⟩:=hsp3
   have hsz:s.size=s.size:=rfl
   refine aN (.tuple #[.agg (aX.cells y).toArray,aV]) rfl (sq (dT rfl rfl) (sq (dT rfl rfl) (eA (cs:=uC) zeroValue41 rfl fun w12 B12 k12 z12 =>?_)))
   have leB12:=k3.size
   have leB12_w3:=aDl w3.heap.size
   have b13:=aDu k3 k12
   refine bR (vs:=(aX.cells y)) B12 sizeOf41 rfl rfl rfl rfl fun w14 B12n O14 z14 =>?_
   replace B12:=B12n
   have b15:=aS.toBelow O14 b13 b13.size leB12
   have b16:=aS.toBelow O14 k12 k12.size leB12_w3
   refine aW aV rfl (nx (aF (rg (aN aV rfl (iJ (.bool false) (gC rfl rfl) (by first | rfl | decide | simp) (nx (rM rfl (aG (rg (sq (BH rfl B12.range rfl) (cE en7 (a1 rfl) (XI K y s _ (hE.below b15) (hPh.below b15) hy hw (ha.below b16) hc hs) ?_)))))))))))
   rintro _ w17 k17 rfl
   have b18:=aDu b15 k17
   have B12:=B12.below k17
   have b19:=aDu b16 k17
   refine aN (.tuple #[.string s,aV]) rfl (sq (dT rfl rfl) (sq (dT rfl rfl) (aW (.string s) rfl (aW aV rfl (nx (rg (aN aV rfl (iJ (.bool true) (eZ rfl rfl) (by first | rfl | decide | simp) (aN (.bool true) rfl (BQ (.string s) rfl rfl aT (by first | rfl | decide | simp) (BQ (.string s) rfl rfl aT (by first | rfl | decide | simp) (BQ (.bool true) rfl rfl (AO rfl rfl) (by simp) ?_))))))))))))
   refine iJ (.bool true) (uK rfl) rfl (aN (.bool true) rfl (BQ (.agg (aX.cells y).toArray) rfl rfl (BH rfl B12.range rfl) (by first | rfl | decide | simp) (QZ (caps:=[]) rfl rfl en8 rfl (ac (a1 rfl)) (OH K y _ (hE.below b18) (hPh.below b18) hy (ha.below b19) hc) ?_)))
   rintro _ w20 k20 rfl
   have b21:=aDu b18 k20
   refine BQ (.bool true) rfl rfl (eZ rfl rfl) (by first | rfl | decide | simp) (iJ (.bool true) (uK rfl) rfl (aN (.bool true) rfl (QZ (caps:=[]) rfl rfl en4 rfl (ac rfl) (Jm K _ (hE.below b21) (hPh.below b21)) ?_)))
   rintro _ w23 k23 rfl
   have b24:=aDu b21 k23
   exact iJ (.bool true) (uK rfl) rfl (aW (.bool true) rfl (nx (aE (fO (fn:=Tryz.f3) (R:=fun e W=>∃ v,e=.returned v/\Below w.heap.size w W/\v=.bool true) rfl ⟨_,rfl,b24,rfl⟩))))
end Go.Proofs.YtlfjfopjjbbcoaaGreatDoor
