/-
  A part of the proof of ImageText: walks of its functions and plain laws. Nothing is asked.
-/
import Derived.Test.YtlfjfopjjbbcoaaGreatDoorPA
import Derived.Lib.IndexBytes
import Derived.Laws.RangeAny
import Derived.Maps.Own
import Derived.Maps.Views
import Derived.Maps.OwnSet
import Derived.Deep.Cut
import Derived.Deep.DeepCutAuto
import Derived.Laws.EntriesVeiled
import Derived.Outline
import Derived.Lib.AppendIntMem
import Derived.Deep.AppendLies
import Derived.Laws.ResultCell
import Derived.Laws.Tables
import Derived.Deep.QuietTactic
import Derived.Sort.Defs
import Derived.Sort.AssemblyPlain
import Derived.Sort.Walk13a
set_option linter.all false
set_option autoImplicit true
set_option relaxedAutoImplicit true
namespace Go.Proofs.YtlfjfopjjbbcoaaGreatDoor
open Go.Proofs.Tryz
open Go.RowKit
theorem SM (h:qJ (qG l) (qA l)=false):gR l=0/\mA l=130:=by simp [gR,mA,h]
theorem Qw (h:qJ (qG l) (qA l)=true):gR l=val (qG l)*wR (qA l)/\mA l=0:=by simp [gR,mA,h]
theorem yB (h:qJ (Lib.trimRightS l eN) (l.drop (Lib.trimRightS l eN).length)=false):gR l=0/\mA l=130:=SM (by rw [<- DS];exact h)
theorem Dg (h:qJ (Lib.trimRightS l eN) (l.drop (Lib.trimRightS l eN).length)=true):gR l=val (Lib.trimRightS l eN)*wR (l.drop (Lib.trimRightS l eN).length)/\mA l=0:=by
 obtain ⟨e1,e2⟩:=Ic h
 rw [e2,e1]
 exact Qw (by rw [<- DS];exact h)
theorem vD (s:ByteArray) (k):(s.extract k s.size).toList.isEmpty=(s.data.toList.drop k).isEmpty:=by
 rw [aBc,Lib.extract_to_end]
theorem sS (P) (w) {a b:Int} (hs:P.length<=140737488351232) (ha:vS P=a) (hb:zG P=b):Calls prog 245 #[.string ⟨P.toArray⟩] w fun e w'=>e=.returned (.tuple #[.int .i64 a,.int .i64 b])/\Below w.heap.size w w':=by
 subst ha hb
 exact CA ⟨P.toArray⟩ w hs
set_option maxHeartbeats 400000 in
theorem Lz (s:ByteArray) (w:World) (hs:s.size<=140737488351232) (hn:s.data.toList.drop (Lib.trimRightS s.data.toList eN).length=[]):Calls prog 227 #[.string s] w fun e w'=>e=.returned (.tuple #[.int .i64 (gR s.data.toList),.int .i64 (mA s.data.toList)])/\Below w.heap.size w w':=by
 have hle:=pK s.data.toList [75,77,71,84,105,66]
 have hsz:s.data.toList.length=s.size:=by simp
 rw [hsz] at hle
 clear hsz
 have hk:Ak (Lib.trimRightS s.data.toList eN)=false->gR s.data.toList=0/\mA s.data.toList=130:=fun h=>yB (by rw [hn];unfold qJ;rw [h];rfl)
 have hk':Ak (Lib.trimRightS s.data.toList eN)=true->gR s.data.toList=(val (Lib.trimRightS s.data.toList eN):Int)/\mA s.data.toList=0:=fun h=>by
  have h2:=Dg (l:=s.data.toList) (by
   rw [hn];unfold qJ;rw [h]
   have:val (Lib.trimRightS s.data.toList eN)<=KK:=by
    unfold Ak at h;simp only [aB0,aBq] at h;exact h.2
   have e1:wR []=1:=rfl
   rw [e1]
   unfold KK at this
   simp;omega)
  rw [hn,show wR []=1 from rfl,Int.mul_one] at h2;exact h2
 have he:=vD s (Lib.trimRightS s.data.toList eN).length
 rw [hn] at he
 have he':(s.extract (Lib.trimRightS s.data.toList [75,77,71,84,105,66]).length s.size).toList.isEmpty=true:=he
 have hb:Ak (Lib.trimRightS s.data.toList eN)=true->val (Lib.trimRightS s.data.toList eN)<=KK:=fun h=>by
  unfold Ak at h;simp only [aB0,aBq] at h;exact h.2
 clear he hn
 unfold eN at *
 generalize hP:Lib.trimRightS s.data.toList [75,77,71,84,105,66]=P at *
 cases hok:Ak P with
 | false=>
  obtain ⟨e1,e2⟩:=hk hok
  rw [e1,e2]
  obtain ⟨n1,n2⟩:=wL hok
  clear hk hk' hb e1 e2
  go_enter func227, ntmps227
  go_wp2_with fail
  refine (aAv lays162 (by kernel_rfl) _ _ _ (by omega) (by decide) (ascii_of_all (by decide))).mono ?_
  rintro e w1 ⟨rfl,hb1⟩
  rw [hP]
  go_wp2_with fail
  refine (sS P _ (by omega) n1 n2).mono ?_
  rintro e w2 ⟨rfl,hb2⟩
  have hb:=kS hb1 hb2
  clear hb1 hb2
  go_wp2
  go_ret2
  exact ⟨rfl,hb⟩
 | true=>
  obtain ⟨e1,e2⟩:=hk' hok
  rw [e1,e2]
  obtain ⟨n1,n2⟩:=Eb hok
  have hb':=hb hok
  clear hk hk' hb e1 e2
  generalize val P=v at *
  unfold KK at hb'
  go_enter func227, ntmps227
  go_wp2_with fail
  refine (aAv lays162 (by kernel_rfl) _ _ _ (by omega) (by decide) (ascii_of_all (by decide))).mono ?_
  rintro e w1 ⟨rfl,hb1⟩
  rw [hP]
  go_wp2_with fail
  refine (sS P _ (by omega) n1 n2).mono ?_
  rintro e w2 ⟨rfl,hb2⟩
  have hb:=kS hb1 hb2
  clear hb1 hb2
  go_wp2
  go_ret2
  exact ⟨rfl,hb⟩
set_option maxRecDepth 100000 in
set_option maxHeartbeats 400000 in
theorem Lo (s:ByteArray) (w:World) (hs:s.size<=140737488351232) (hu:lA w) (hn:¬ s.data.toList.drop (Lib.trimRightS s.data.toList eN).length=[]) (hz:wR (s.data.toList.drop (Lib.trimRightS s.data.toList eN).length)=0):Calls prog 227 #[.string s] w fun e w'=>e=.returned (.tuple #[.int .i64 (gR s.data.toList),.int .i64 (mA s.data.toList)])/\Below w.heap.size w w':=by
 have hle:=pK s.data.toList [75,77,71,84,105,66]
 have hsz:s.data.toList.length=s.size:=by simp
 rw [hsz] at hle
 clear hsz
 obtain ⟨e1,e2⟩:=yB (l:=s.data.toList) (by unfold qJ;rw [hz];simp)
 rw [e1,e2]
 have he:=vD s (Lib.trimRightS s.data.toList eN).length
 rw [show (s.data.toList.drop (Lib.trimRightS s.data.toList eN).length).isEmpty=false from by simpa using hn] at he
 have hU:=Lib.extract_to_end s (Lib.trimRightS s.data.toList eN).length
 rw [<- hU] at hz hn
 have hsU:(s.extract (Lib.trimRightS s.data.toList eN).length s.size).size<=maxLen:=by
  have h1:=aD7 List.length hU
  simp only [aB5] at h1
  have h2:(s.extract (Lib.trimRightS s.data.toList eN).length s.size).data.toList.length=(s.extract (Lib.trimRightS s.data.toList eN).length s.size).size:=by simp
  have h3:s.data.toList.length=s.size:=by simp
  have h4:maxLen=9223372036854775807:=rfl
  rw [h4]
  omega
 clear hU e1 e2
 unfold eN at *
 generalize hP:Lib.trimRightS s.data.toList [75,77,71,84,105,66]=P at *
 have HZ:=aEb hz
 have HN:=aEb hn
 have HS:=aEb hsU
 clear hz hn hsU
 go_enter func227, ntmps227
 go_wp2_with fail
 refine (aAv lays162 (by kernel_rfl) _ _ _ (by omega) (by decide) (ascii_of_all (by decide))).mono ?_
 rintro e w1 ⟨rfl,hb1⟩
 rw [hP]
 obtain ⟨bm,hc,hl⟩:=(hu.below hb1).look _ HN.out HS.out
 rw [HZ.out] at hl
 have he2:(!(s.extract P.length s.size).toList.isEmpty)=true:=by rw [he];rfl
 go_wp2_with fail
 go_ret2
 exact ⟨rfl,hb1⟩
set_option maxRecDepth 100000 in
set_option maxHeartbeats 800000 in
theorem Me (s:ByteArray) (w:World) (hs:s.size<=140737488351232) (hu:lA w) (hn:¬ s.data.toList.drop (Lib.trimRightS s.data.toList eN).length=[]) (hz:wR (s.data.toList.drop (Lib.trimRightS s.data.toList eN).length)≠0):Calls prog 227 #[.string s] w fun e w'=>e=.returned (.tuple #[.int .i64 (gR s.data.toList),.int .i64 (mA s.data.toList)])/\Below w.heap.size w w':=by
 have hle:=pK s.data.toList [75,77,71,84,105,66]
 have hsz:s.data.toList.length=s.size:=by simp
 rw [hsz] at hle
 clear hsz
 obtain ⟨hb1,hb2⟩:=Xg hz
 have hk:Ak (Lib.trimRightS s.data.toList eN)=false->gR s.data.toList=0/\mA s.data.toList=130:=fun h=>yB (by unfold qJ;rw [h];rfl)
 have hk1:¬ (val (Lib.trimRightS s.data.toList eN):Int)<=1099511627776 / wR (s.data.toList.drop (Lib.trimRightS s.data.toList eN).length)->gR s.data.toList=0/\mA s.data.toList=130:=fun h=>yB (by unfold qJ;rw [decide_eq_false h];simp)
 have hk2:Ak (Lib.trimRightS s.data.toList eN)=true->(val (Lib.trimRightS s.data.toList eN):Int)<=1099511627776 / wR (s.data.toList.drop (Lib.trimRightS s.data.toList eN).length)->gR s.data.toList=(val (Lib.trimRightS s.data.toList eN):Int)*wR (s.data.toList.drop (Lib.trimRightS s.data.toList eN).length)/\mA s.data.toList=0:=fun h1 h2=>
  Dg (by unfold qJ;rw [decide_eq_true h2,h1];simpa using hz)
 have he:=vD s (Lib.trimRightS s.data.toList eN).length
 rw [show (s.data.toList.drop (Lib.trimRightS s.data.toList eN).length).isEmpty=false from by simpa using hn] at he
 have hU:=Lib.extract_to_end s (Lib.trimRightS s.data.toList eN).length
 have hm:wR (s.extract (Lib.trimRightS s.data.toList eN).length s.size).data.toList=wR (s.data.toList.drop (Lib.trimRightS s.data.toList eN).length):=by rw [hU]
 rw [<- hU] at hn
 have hsU:(s.extract (Lib.trimRightS s.data.toList eN).length s.size).size<=maxLen:=by
  have h1:=aD7 List.length hU
  simp only [aB5] at h1
  have h2:(s.extract (Lib.trimRightS s.data.toList eN).length s.size).data.toList.length=(s.extract (Lib.trimRightS s.data.toList eN).length s.size).size:=by simp
  have h3:s.data.toList.length=s.size:=by simp
  have h4:maxLen=9223372036854775807:=rfl
  rw [h4]
  omega
 clear hU
 unfold eN at *
 generalize hP:Lib.trimRightS s.data.toList [75,77,71,84,105,66]=P at *
 generalize wR (s.data.toList.drop P.length)=b at *
 have hdiv:(1099511627776:Int).tdiv b=1099511627776 / b:=aAu (by omega)
 have hd0:0<=1099511627776 / b/\1099511627776 / b<=1099511627776:=⟨Int.ediv_nonneg (by omega) (by omega),Int.ediv_le_self _ (by omega)⟩
 have hmul:(1099511627776 / b)*b<=1099511627776:=Int.ediv_mul_le _ (by omega)
 have hz0:(b == 0)=false:=by rw [beq_eq_false_iff_ne];exact hz
 have hb:∀ v:Int,0<=v->v<=1099511627776 / b->0<=v*b/\v*b<=1099511627776:=fun v h0 h=>⟨Int.mul_nonneg h0 (by omega),Int.le_trans (Int.mul_le_mul_of_nonneg_right h (by omega)) hmul⟩
 have he2:(!(s.extract P.length s.size).toList.isEmpty)=true:=by rw [he];rfl
 have hv:=Int.natCast_nonneg (val P)
 have HB:=aEb hb
 have HK1:=aEb hk1
 have HK2:=aEb hk2
 have HN:=aEb hn
 have HS:=aEb hsU
 have HD:=aEb hdiv
 obtain ⟨hd0,hd1⟩:=hd0
 clear hb hk1 hk2 hmul hz hn hsU he hdiv
 cases hok:Ak P with
 | false=>
  obtain ⟨e1,e2⟩:=hk hok
  rw [e1,e2]
  obtain ⟨n1,n2⟩:=wL hok
  clear hk e1 e2 hok
  go_enter func227, ntmps227
  go_wp2_with fail
  refine (aAv lays162 (by kernel_rfl) _ _ _ (by omega) (by decide) (ascii_of_all (by decide))).mono ?_
  rintro e w1 ⟨rfl,hb1⟩
  rw [hP]
  obtain ⟨bm,hc,hl⟩:=(hu.below hb1).look _ HN.out HS.out
  rw [hm] at hl
  go_wp2_with fail
  refine (sS P _ (by omega) n1 n2).mono ?_
  rintro e w2 ⟨rfl,hb2⟩
  have hb:=kS hb1 hb2
  clear hb1 hb2
  go_wp2
  go_ret2
  exact ⟨rfl,hb⟩
 | true=>
  clear hk
  obtain ⟨n1,n2⟩:=Eb hok
  have HO:=aEb hok
  clear hok
  generalize (val P:Int)=v at *
  by_cases hvb:v<=1099511627776 / b
  ·obtain ⟨e1,e2⟩:=HK2.out HO.out hvb
   rw [e1,e2]
   obtain ⟨m1,m2⟩:=HB.out v hv hvb
   clear e1 e2
   have hnb:¬ (1099511627776:Int).tdiv b<v:=by rw [HD.out];omega
   go_enter func227, ntmps227
   go_wp2_with fail
   refine (aAv lays162 (by kernel_rfl) _ _ _ (by omega) (by decide) (ascii_of_all (by decide))).mono ?_
   rintro e w1 ⟨rfl,hb1⟩
   rw [hP]
   obtain ⟨bm,hc,hl⟩:=(hu.below hb1).look _ HN.out HS.out
   rw [hm] at hl
   go_wp2_with fail
   refine (sS P _ (by omega) n1 n2).mono ?_
   rintro e w2 ⟨rfl,hb2⟩
   have hb:=kS hb1 hb2
   clear hb1 hb2
   go_wp2
   go_ret2
   exact ⟨rfl,hb⟩
  ·obtain ⟨e1,e2⟩:=HK1.out hvb
   rw [e1,e2]
   clear e1 e2
   have hnb:(1099511627776:Int).tdiv b<v:=by rw [HD.out];omega
   go_enter func227, ntmps227
   go_wp2_with fail
   refine (aAv lays162 (by kernel_rfl) _ _ _ (by omega) (by decide) (ascii_of_all (by decide))).mono ?_
   rintro e w1 ⟨rfl,hb1⟩
   rw [hP]
   obtain ⟨bm,hc,hl⟩:=(hu.below hb1).look _ HN.out HS.out
   rw [hm] at hl
   go_wp2_with fail
   refine (sS P _ (by omega) n1 n2).mono ?_
   rintro e w2 ⟨rfl,hb2⟩
   have hb:=kS hb1 hb2
   clear hb1 hb2
   go_wp2
   go_ret2
   exact ⟨rfl,hb⟩
theorem Rt (s) (w) (hs:s.size<=140737488351232) (hu:lA w):Calls prog 227 #[.string s] w fun e w'=>e=.returned (.tuple #[.int .i64 (gR s.data.toList),.int .i64 (mA s.data.toList)])/\Below w.heap.size w w':=by
 by_cases hn:s.data.toList.drop (Lib.trimRightS s.data.toList eN).length=[]
 ·exact Lz s w hs hn
 ·by_cases hz:wR (s.data.toList.drop (Lib.trimRightS s.data.toList eN).length)=0
  ·exact Lo s w hs hu hn hz
  ·exact Me s w hs hu hn hz
def letB (b:Int):Bool:=decide (97<=b)&&decide (b<=122)||decide (65<=b)&&decide (b<=90)||decide (48<=b)&&decide (b<=57)||b == 95
def BD (i:Nat) (b:Int):Bool:=letB b||(decide (0<i)&&(b == 45||b == 46))
def Et:Nat->List UInt8->Bool
 | _,[]=>true
 | i,b::r=>BD i b.toNat&&Et (i+1) r
def dK (l:List UInt8):Bool:=Et 0 l&&(decide (1<=l.length)&&decide (l.length<=32))
theorem pU {a b:Bool} (h:a=b):Ending.returned (.bool a)=.returned (.bool b):=by rw [h]
theorem Ht (i) (b:Int):BD i b=true↔(97<=b/\b<=122)\/(65<=b/\b<=90)\/(48<=b/\b<=57)\/b=95\/(0<i/\(b=45\/b=46)):=by
 unfold BD letB
 simp only [aCm,aB0,aBq,beq_iff_eq]
 omega
theorem Ks {b:Int} (h:¬ ((97<=b/\b<=122)\/(65<=b/\b<=90)\/(48<=b/\b<=57)\/b=95\/(0<i/\(b=45\/b=46)))):BD i b=false:=by
 rw [Bool.eq_false_iff];exact fun k=>h ((Ht i b).1 k)
theorem Yx (s:ByteArray) (pos:Nat) (h:pos<s.size):Et pos (s.data.toList.drop pos)=(BD pos s[pos].toNat&&Et (pos+1) (s.data.toList.drop (pos+1))):=by
 rw [aAw (by simpa using h)];rfl
theorem UF (s) (w:World) (pos) (h:pos<s.size):∃ (c:Int) (d:Nat),1<=d/\0<=c/\BD pos s[pos].toNat=BD pos c/\(BD pos c=true->d=1) /\
  ∀ ty,(Instr.next (.pointer (some ⟨w.heap.size,0,none⟩)) true ty).run prog (w.iter s pos)=.ok (.tuple #[.bool true,.int .i64 pos,.int .i32 c]) (w.iter s (pos+d)):=by
 by_cases ha:s[pos].toNat<128
 ·exact ⟨s[pos].toNat,1,aDl _,by omega,rfl,fun _=>rfl,fun ty=>run_next_ascii w s pos ty h ha⟩
 ·obtain ⟨h1,h2⟩:=decode_high s pos h (by omega)
  have hn:∀ c:Nat,128<=c->BD pos c=false:=fun c hc=>Ks (by omega)
  refine ⟨(Utf8.decode s pos).1,(Utf8.decode s pos).2,h2,by omega,?_,?_,fun ty=>run_next_any w s pos ty h⟩
  ·rw [hn _ (by omega),hn _ h1]
  ·intro k;rw [hn _ h1] at k;cases k
set_option maxRecDepth 100000 in
set_option maxHeartbeats 4000000 in
theorem lO (s:ByteArray) (w:World) (hs:s.size<=140737488351232):Calls prog 99 #[.string s] w fun e w'=>e=.returned (.bool (dK s.data.toList))/\Below w.heap.size w w':=by
 have HB:∀ pos,Hid (Below w.heap.size w (w.iter s pos)):=fun pos=>aEb ((aDt _ _).alloc (aDl _) _)
 have hno:Et 0 s.data.toList=false->dK s.data.toList=false:=fun h=>by unfold dK;rw [h];rfl
 have HNO:=aEb hno
 clear hno
 go_enter func99, ntmps99
 go_wp2
 go_loopw [] (fun w' => ∃ (pos : Nat), w' = w.iter s pos /\ pos <= s.size /\ Et pos (s.data.toList.drop pos) = Et 0 s.data.toList) (fun w' => s.size - w'.iterPos w.heap.size)
 case atStart=>exact ⟨0,rfl,aDm _,rfl⟩
 case round=>
  obtain ⟨pos,rfl,hle,hc⟩:=hrel
  have HC:=aEb hc
  clear hc
  by_cases hp:pos<s.size
  ·have hk:=Yx s pos hp
   rw [HC.out] at hk
   obtain ⟨c,d,hd,hc0,he,hone,hnx⟩:=UF s w pos hp
   rw [he] at hk
   have HK:=aEb hk
   have HONE:=aEb hone
   clear hk hone he
   have hgo:BD pos c=true->d=1/\Et (pos+1) (s.data.toList.drop (pos+1))=Et 0 s.data.toList:=fun h=>⟨HONE.out h,by have:=HK.out;rw [h] at this;exact this.symm⟩
   have hst:BD pos c=false->dK s.data.toList=false:=fun h=>HNO.out (by rw [HK.out,h];rfl)
   have HGO:=aEb hgo
   have HST:=aEb hst
   clear hgo hst HK HONE HC HNO
   by_cases hok:(97<=c/\c<=122)\/(65<=c/\c<=90)\/(48<=c/\c<=57)\/c=95\/(0<pos/\(c=45\/c=46))
   ·obtain ⟨rfl,hn⟩:=HGO.out ((Ht pos c).2 hok)
    have HN:=aEb hn
    clear hn HGO HST
    rcases hok with h | h | h | h | ⟨h0,h | h⟩
    all_goals try subst h
    all_goals try (have hp0:((pos:Int) == 0)=false:=by rw [beq_eq_false_iff_ne];omega)
    all_goals try (
     first | have a1:97<=c:=by omega | have a1:¬ 97<=c:=by omega
     first | have a2:c<=122:=by omega | have a2:¬ c<=122:=by omega
     first | have a3:65<=c:=by omega | have a3:¬ 65<=c:=by omega
     first | have a4:c<=90:=by omega | have a4:¬ c<=90:=by omega
     first | have a5:48<=c:=by omega | have a5:¬ 48<=c:=by omega
     first | have a6:c<=57:=by omega | have a6:¬ c<=57:=by omega
     first | have a7:(c == 95)=false:=by { rw [beq_eq_false_iff_ne];omega } | skip
     first | have a8:(c != 45)=true:=by { rw [bne_iff_ne];omega } | skip
     first | have a9:(c != 46)=true:=by { rw [bne_iff_ne];omega } | skip)
    all_goals
     go_wp2
     refine ⟨⟨pos+1,rfl,by omega,HN.out⟩,?_⟩
     simp
     omega
   ·have hn:=HST.out (Ks hok)
    have HNM:=aEb hn
    clear hn HGO HST
    rcases (show (c<45\/c=47\/(57<c/\c<65)\/(90<c/\c<95)\/c=96\/(122<c))\/(pos=0/\c=45)\/(pos=0/\c=46) by omega) with h | ⟨rfl,rfl⟩ | ⟨rfl,rfl⟩
    ·by_cases hp0:pos=0
     ·subst hp0
      rcases h with h | rfl | h | h | rfl | h
      all_goals try (
       first | have a1:97<=c:=by omega | have a1:¬ 97<=c:=by omega
       first | have a2:c<=122:=by omega | have a2:¬ c<=122:=by omega
       first | have a3:65<=c:=by omega | have a3:¬ 65<=c:=by omega
       first | have a4:c<=90:=by omega | have a4:¬ c<=90:=by omega
       first | have a5:48<=c:=by omega | have a5:¬ 48<=c:=by omega
       first | have a6:c<=57:=by omega | have a6:¬ c<=57:=by omega
       first | have a7:(c == 95)=false:=by { rw [beq_eq_false_iff_ne];omega } | skip
       first | have a8:(c != 45)=true:=by { rw [bne_iff_ne];omega } | skip
       first | have a9:(c != 46)=true:=by { rw [bne_iff_ne];omega } | skip)
      all_goals
       go_wp2
       go_ret
       exact ⟨pU HNM.out.symm,(HB _).out⟩
     ·have hp0':((pos:Int) == 0)=false:=by rw [beq_eq_false_iff_ne];omega
      rcases h with h | rfl | h | h | rfl | h
      all_goals try (
       first | have a1:97<=c:=by omega | have a1:¬ 97<=c:=by omega
       first | have a2:c<=122:=by omega | have a2:¬ c<=122:=by omega
       first | have a3:65<=c:=by omega | have a3:¬ 65<=c:=by omega
       first | have a4:c<=90:=by omega | have a4:¬ c<=90:=by omega
       first | have a5:48<=c:=by omega | have a5:¬ 48<=c:=by omega
       first | have a6:c<=57:=by omega | have a6:¬ c<=57:=by omega
       first | have a7:(c == 95)=false:=by { rw [beq_eq_false_iff_ne];omega } | skip
       first | have a8:(c != 45)=true:=by { rw [bne_iff_ne];omega } | skip
       first | have a9:(c != 46)=true:=by { rw [bne_iff_ne];omega } | skip)
      all_goals
       go_wp2
       go_ret
       exact ⟨pU HNM.out.symm,(HB _).out⟩
    all_goals
     go_wp2
     go_ret
     exact ⟨pU HNM.out.symm,(HB _).out⟩
  ·obtain rfl:pos=s.size:=by omega
   have hlen:s.data.toList.drop s.size=[]:=List.drop_eq_nil_of_le (by simp)
   have hc0:=HC.out
   rw [hlen] at hc0
   have hnm:dK s.data.toList=(decide (1<=s.size)&&decide (s.size<=32)):=by
    have h3:s.data.toList.length=s.size:=by simp
    unfold dK
    rw [<- hc0,h3];rfl
   have HNM:=aEb hnm
   have hnx:∀ ty,(Instr.next (.pointer (some ⟨w.heap.size,0,none⟩)) true ty).run prog (w.iter s s.size)=_:=fun ty=>run_next_end w s s.size ty hp
   clear hc0 hlen hnm HC HNO hp
   by_cases h1:1<=s.size
   ·have h1':(1:Int)<=(s.size:Int):=by omega
    have h1'':¬ (s.size:Int)<1:=by omega
    by_cases h2:s.size<=32
    ·have h2':(s.size:Int)<=32:=by omega
     go_wp2
     go_ret
     exact ⟨pU (by rw [HNM.out];first | (rw [decide_eq_true h1,decide_eq_true h2];done) | (rw [decide_eq_true h1,decide_eq_false h2];done) | (rw [decide_eq_true h1,decide_eq_true h2];rfl) | (rw [decide_eq_true h1,decide_eq_false h2];rfl) | (rw [decide_eq_true h1,Bool.true_and];simp)),(HB _).out⟩
    ·have h2':¬ (s.size:Int)<=32:=by omega
     go_wp2
     go_ret
     exact ⟨pU (by rw [HNM.out];first | (rw [decide_eq_true h1,decide_eq_true h2];done) | (rw [decide_eq_true h1,decide_eq_false h2];done) | (rw [decide_eq_true h1,decide_eq_true h2];rfl) | (rw [decide_eq_true h1,decide_eq_false h2];rfl) | (rw [decide_eq_true h1,Bool.true_and];simp)),(HB _).out⟩
   ·have h3:s.size<1:=by omega
    go_wp2
    go_ret
    exact ⟨pU (by rw [HNM.out,decide_eq_false h1];rfl),(HB _).out⟩
section
open Go.Proofs.Tryz
open Go.RowKit Go.Maps Go.WideMaps
def rfH (v:Value):Option (DataW Value × List MemPlace):=some (.held v,[])
open Classical in
noncomputable def Df (f:Lit->Option Value) (k:Lit) (v:Option Value):Lit->Option Value:=fun j=>if j=k then v else f j
theorem mN (f:Lit->Option Value) (k:Lit) (v:Option Value):Df f k v k=v:=by simp [Df]
theorem nB (f:Lit->Option Value) {k j:Lit} (v:Option Value) (h:j≠k):Df f k v j=f j:=by simp [Df,h]
def dR (K:TypeId) (b n m:Nat) (f:Lit->Option Value) (w:World):Prop:=
 ∃ D:DataW Value,w.ownsMap prog K rfH b n D/\Tidy D/\size D=m/\(∀ kl,WideAt.IsKeyLit kl->has D kl=(f kl).isSome)/\(∀ kl v,WideAt.IsKeyLit kl->f kl=some v->∀ z,D.atKey kl z=.held v)/\(∀ kl,WideAt.IsKeyLit kl->f kl=none->∀ z,D.atKey kl z=z)
section
variable {K b n m:Nat} {f:Lit->Option Value} {w w':World}
theorem dR.made (w:World) (K):dR K w.heap.size 0 0 (fun _=>none) (w.alloc (.map #[] 0)):=
 ⟨_,World.ownsMap_made _ _ _ _,tidy_empty,rfl,fun _ _=>rfl,fun _ _ _ h _=>(by cases h),fun _ _ _ _=>rfl⟩
theorem dR.kept (h:dR K b n m f w) (hg:w.grownBy w' row) (hne:some b≠row):dR K b n m f w':=
 let ⟨D,h1,h2⟩:=h;⟨D,h1.kept hg hne,h2⟩
theorem dR.lt (h:dR K b n m f w):b<w.heap.size:=let ⟨_,h1,_⟩:=h;h1.lt
theorem dR.below (h:dR K b n m f w) (k:Below w.heap.size w w'):dR K b n m f w':=
 h.kept (row:=none) ⟨k.os,k.tape,k.output,k.size,fun i hi _=>k.block i hi⟩ (by simp)
theorem dR.alloc (h:dR K b n m f w) (o):dR K b n m f (w.alloc o):=h.kept (World.grownBy_alloc w o none) (by simp)
theorem dR.only (h:dR K b n m f w) (k:aS c w w') (hne:b≠c):dR K b n m f w':=h.kept k (fun e=>hne (by simpa using e))
theorem dR.put (h:dR K b n m f w) (L:Keyed prog K) (ht:prog.underlying t=some (.map K e)) (hn:n<maxLen) {kl:Lit} (hk:keyOf prog K key=some kl):
  ∃ w',(Instr.mapUpdate t (.map (some b)) key v).run prog w=.ok () w'/\dR K b (n+1) (if (f kl).isSome=true then m else m+1) (Df f kl (some v)) w'/\aS b w w':=by
 obtain ⟨D,h1,h2,h3,h4,h5,h6⟩:=h
 have ik:=L.key hk
 obtain ⟨w',hrun,ho,hg⟩:=h1.update L ht hn hk (d:=.held v) (ps:=[]) rfl
 refine ⟨w',hrun,⟨_,ho,h2.put ik _,?_,fun k' ik'=>?_,fun k' v' ik' hv z=>?_,fun k' ik' hv z=>?_⟩,hg⟩
 ·rw [size_put h2,h4 kl ik,h3]
 ·by_cases e:k'=kl
  ·subst e;rw [has_put_same h2.isMap ik,mN];rfl
  ·rw [has_put_other e,nB _ _ e];exact h4 k' ik'
 ·by_cases e:k'=kl
  ·subst e;rw [mN] at hv;cases hv;exact atKey_put_same h2.isMap ik _ _
  ·rw [nB _ _ e] at hv;rw [atKey_put_other e];exact h5 k' v' ik' hv z
 ·by_cases e:k'=kl
  ·subst e;rw [mN] at hv;cases hv
  ·rw [nB _ _ e] at hv;rw [atKey_put_other e];exact h6 k' ik' hv z
theorem dR.look (h:dR K b n m f w) (L:Keyed prog K) (ht:prog.underlying t=some (.map K e)) (hz:(zeroValue e).run prog w=.ok z w) {kl:Lit} (hk:keyOf prog K key=some kl):
  (Instr.lookup t (.map (some b)) key false).run prog w=.ok ((f kl).getD z) w:=by
 obtain ⟨D,h1,h2,h3,h4,h5,h6⟩:=h
 obtain ⟨v,ps,hrun,hv⟩:=h1.lookup L ht hz (zd:=.held z) (zp:=[]) rfl hk
 rw [hrun]
 cases hf:f kl with
 | none=>
  rw [h6 kl (L.key hk) hf] at hv
  simp only [rfH,aBv,Prod.mk.injEq,DataW.held.injEq] at hv
  rw [hv.1];rfl
 | some u=>
  rw [h5 kl u (L.key hk) hf] at hv
  simp only [rfH,aBv,Prod.mk.injEq,DataW.held.injEq] at hv
  rw [hv.1];rfl
theorem dR.drop (h:dR K b n m f w) (L:Keyed prog K) (ht:prog.underlying t=some (.map K e)) {kl:Lit} (hk:keyOf prog K key=some kl) (ty):
  ∃ w',(Builtin.delete_ #[t,K] ty #[.map (some b),key]).run prog w=.ok (.tuple #[]) w'/\dR K b n (if (f kl).isSome=true then m - 1 else m) (Df f kl none) w'/\aS b w w':=by
 obtain ⟨D,h1,h2,h3,h4,h5,h6⟩:=h
 have ik:=L.key hk
 obtain ⟨w',hrun,ho,hg⟩:=h1.drop L ht hk ty
 refine ⟨w',hrun,⟨_,ho,h2.del _,?_,fun k' ik'=>?_,fun k' v' ik' hv z=>?_,fun k' ik' hv z=>?_⟩,hg.grown⟩
 ·have hs:=size_del h2 (k:=kl)
  rw [h4 kl ik,h3] at hs
  split <;> rename_i hc
  ·rw [aEc hc] at hs;omega
  ·rw [aEd hc] at hs;omega
 ·by_cases e:k'=kl
  ·subst e;rw [has_del_same,mN];rfl
  ·rw [has_del_other e,nB _ _ e];exact h4 k' ik'
 ·by_cases e:k'=kl
  ·subst e;rw [mN] at hv;cases hv
  ·rw [nB _ _ e] at hv;rw [atKey_del_other e];exact h5 k' v' ik' hv z
 ·by_cases e:k'=kl
  ·subst e;exact atKey_del_same _
  ·rw [nB _ _ e] at hv;rw [atKey_del_other e];exact h6 k' ik' hv z
theorem dR.len (h:dR K b n m f w) (ht:prog.underlying t=some (.map K e)) (ty):(Builtin.len_ #[t] ty #[.map (some b)]).run prog w=.ok (zi m) w:=by
 obtain ⟨D,h1,_,h3,_⟩:=h
 rw [h1.len ht ty,h3]
end
theorem kM {Q:Exit->Act->World->Prop} (hgd:o.guard=none) (mo ko vo) (t) (ho:o.op=.insert t mo ko vo\/o.op=.mapUpdate t mo ko vo)
  (L:Keyed prog K) (ht:prog.underlying t=some (.map K e)) {f:Lit->Option Value} (h:dR K b n m f w) (hn:n<maxLen) (hm:a.eval mo=.map (some b)) (key v) (hk:a.eval ko=key) (hv:a.eval vo=v) {kl:Lit} (hkl:keyOf prog K key=some kl)
  (hK:∀ w',dR K b (n+1) (if (f kl).isSome=true then m else m+1) (Df f kl (some v)) w'->aS b w w'->wpList prog ops Q rest (a.put o.dst undef) w'):wpList prog ops Q (o::rest) a w:=by
 refine wpList_plain hgd fun K' hK'=>?_
 obtain ⟨w',hrun,h1,h2⟩:=h.put L ht hn (v:=v) hkl
 unfold Oper.wp
 rcases ho with ho | ho
 ·simp [execOp,ho,hm,hk,hv,hrun,Result.andThen]
  exact hK' _ _ (hK w' h1 h2)
 ·simp [execOp,ho,hm,hk,hv,hrun,Result.andThen]
  exact hK' _ _ (hK w' h1 h2)
theorem mU {Q:Exit->Act->World->Prop} (hgd:o.guard=none) (mo ko) (t K) (ho:o.op=.call { callee:=.builtin .delete,args:=#[mo,ko],argTypes:=#[t,K] })
  (L:Keyed prog K) (ht:prog.underlying t=some (.map K e)) {f:Lit->Option Value} (h:dR K b n m f w) (hm:a.eval mo=.map (some b)) (key) (hk:a.eval ko=key) {kl:Lit} (hkl:keyOf prog K key=some kl)
  (hK:∀ w',dR K b n (if (f kl).isSome=true then m - 1 else m) (Df f kl none) w'->aS b w w'->wpList prog ops Q rest (a.put o.dst (.tuple #[])) w'):wpList prog ops Q (o::rest) a w:=by
 refine wpList_plain hgd fun K' hK'=>?_
 obtain ⟨w',hrun,h1,h2⟩:=h.drop L ht hkl o.type
 unfold Oper.wp
 simp [execOp,ho,resolve,invoke,builtin,hm,hk,hrun,Result.andThen]
 exact hK' _ _ (hK w' h1 h2)
theorem gT {Q:Exit->Act->World->Prop} (hgd:o.guard=none) (mo ko) (t) (ho:o.op=.lookup t mo ko false)
  (L:Keyed prog K) (ht:prog.underlying t=some (.map K e)) (hz:∀ w,(zeroValue e).run prog w=.ok z w) {f:Lit->Option Value} (h:dR K b n m f w) (hm:a.eval mo=.map (some b)) (key) (hk:a.eval ko=key) {kl:Lit} (hkl:keyOf prog K key=some kl)
  (hK:∀ v,v=(f kl).getD z->wpList prog ops Q rest (a.put o.dst v) w):wpList prog ops Q (o::rest) a w:=by
 refine wpList_plain hgd fun K' hK'=>?_
 have hrun:=h.look L ht (hz w) hkl
 unfold Oper.wp
 simp [execOp,ho,hm,hk,hrun,Result.andThen]
 exact hK' _ _ (hK _ rfl)
theorem qS (s) (h:s.size<=maxLen):keyOf prog 9 (.string s)=some (.string s.data.toList):=keyOf_string_mk underlying9 h
theorem mP: Keyed prog 9:=string_keyed underlying9
theorem Er: Keyed prog 5:=int_keyed underlying5
theorem EH (x:Int) (h0:0<=x) (h1:x<=255):keyOf prog 5 (.int .u8 x)=some (.int .u8 x):=keyOf_int_mk underlying5 (by simp [Lit.wf,IntKind.min,IntKind.max,IntKind.signed,IntKind.bits];omega)
end
section
open Go.Proofs.Tryz
open Go.RowKit Go.Maps Go.WideMaps
def Fx {α:Type} (f:Nat->α) (i:Nat) (v:α):Nat->α:=fun j=>if j=i then v else f j
theorem kA {α:Type} (f:Nat->α) (i) (v:α):Fx f i v i=v:=by simp [Fx]
theorem cL {α:Type} (f:Nat->α) (v:α) (h:j≠i):Fx f i v j=f j:=by simp [Fx,h]
def rP (w w':World):Prop:=∀ a v,w.cell? a=some v->w'.cell? a=some v
theorem rP.refl (w):rP w w:=fun _ _ h=>h
theorem rP.trans (h:rP w w1) (k:rP w1 w2):rP w w2:=fun a v hc=>k a v (h a v hc)
theorem rP.below (h:Below w.heap.size w w'):rP w w':=fun _ _ hc=>aDy h hc
structure FU where
 fr:(Nat->Value)->Act
 V:Nat->Value->World->Prop
 ins:List (Nat × List UInt8 × Nat)
 M:Nat
structure nQ (S:FU) (w0:World) (g:Nat->Value) (L:Nat->Bool) (w:World):Prop where
 below:Below w0.heap.size w0 w
 val:∀ i,L i=true->S.V i (g i) w
 map:L 0=true->∃ b n m f,g 0=.map (some b)/\w0.heap.size<=b/\n<=S.ins.countP (fun r=>L r.1)/\dR 9 b n m f w/\(∀ r∈S.ins,L r.1=true->f (.string r.2.1)=some (g r.2.2))/\(∀ kl,(∀ r∈S.ins,L r.1=true->kl≠.string r.2.1)->f kl=none)
 insd:∀ r∈S.ins,L r.1=true->L 0=true/\L r.2.2=true
 mv:L S.M=true->L 0=true/\g S.M=g 0
 last:L (S.M+1)=true->L 0=true/\g (S.M+1)=g 0
structure zP (S:FU):Prop where
 stable:∀ i v w w',S.V i v w->rP w w'->S.V i v w'
 ix:∀ r∈S.ins,r.1≠0/\r.1≠S.M/\r.1≠S.M+1/\r.2.2≠0/\r.2.2≠S.M/\r.2.2≠S.M+1/\r.2.1.length<=100
 apart:∀ r∈S.ins,∀ r'∈S.ins,(r.1=r'.1\/r.2.1=r'.2.1->r=r')/\r.1≠r'.2.2
 len:S.ins.length<=100
 m0:S.M≠0
section
variable {S:FU} {w0 w w':World} {g:Nat->Value} {L:Nat->Bool}
theorem nQ.start (F:zP S) (w0) (g:Nat->Value) (w) (hw:Below w0.heap.size w0 w):nQ S w0 g (fun _=>false) w:=
 ⟨hw,fun _ h=>(aBf h).elim,fun h=>(aBf h).elim,fun _ _ h=>(aBf h).elim,fun h=>(aBf h).elim,fun h=>(aBf h).elim⟩
theorem nQ.value (h:nQ S w0 g L w) (F:zP S) (h0:i≠0) (hM:i≠S.M) (hM1:i≠S.M+1) (hr:∀ r∈S.ins,i≠r.1) (hu:L i=false) (hb:Below w.heap.size w w') (hv:S.V i v w'):nQ S w0 (Fx g i v) (Fx L i true) w' where
 below:=h.below.trans (hb.mono h.below.size)
 val j hl:=by
  by_cases e:j=i
  ·subst e;rw [kA];exact hv
  ·rw [cL _ _ e] at hl ⊢;exact F.stable _ _ _ _ (h.val j hl) (rP.below hb)
 map hl:=by
  rw [cL _ _ h0.symm] at hl
  obtain ⟨b,n,m,f,e1,e2,e3,e4,e5,e6⟩:=h.map hl
  refine ⟨b,n,m,f,by rw [cL _ _ h0.symm];exact e1,e2,?_,e4.below hb,fun r hm hl=>?_,fun kl hk=>?_⟩
  ·refine aC7 e3 (Nat.le_of_eq (List.countP_congr fun r hm=>?_))
   rw [cL _ _ (hr r hm).symm]
  ·rw [cL _ _ (hr r hm).symm] at hl
   have hs:=(h.insd r hm hl).2
   have hne:r.2.2≠i:=fun e=>by rw [e,hu] at hs;cases hs
   rw [cL _ _ hne];exact e5 r hm hl
  ·exact e6 kl fun r hm hl=>hk r hm (by rw [cL _ _ (hr r hm).symm];exact hl)
 insd r hm hl:=by
  rw [cL _ _ (hr r hm).symm] at hl
  have hs:=h.insd r hm hl
  refine ⟨by rw [cL _ _ h0.symm];exact hs.1,?_⟩
  by_cases e:r.2.2=i
  ·rw [e,kA]
  ·rw [cL _ _ e];exact hs.2
 mv hl:=by rw [cL _ _ hM.symm] at hl ⊢;rw [cL _ _ h0.symm,cL _ _ h0.symm];exact h.mv hl
 last hl:=by rw [cL _ _ hM1.symm] at hl ⊢;rw [cL _ _ h0.symm,cL _ _ h0.symm];exact h.last hl
theorem nQ.make (h:nQ S w0 g L w) (F:zP S) (hu:L 0=false) (hv:∀ v w,S.V 0 v w):nQ S w0 (Fx g 0 (.map (some w.heap.size))) (Fx L 0 true) (w.alloc (.map #[] 0)) where
 below:=h.below.alloc h.below.size _
 val j hl:=by
  by_cases e:j=0
  ·subst e;exact hv _ _
  ·rw [cL _ _ e] at hl ⊢;exact F.stable _ _ _ _ (h.val j hl) (rP.below ((aDt _ _).alloc (aDl _) _))
 map _:=by
  refine ⟨w.heap.size,0,0,_,kA _ _ _,h.below.size,aDm _,dR.made w 9,fun r hm hl=>?_,fun kl _=>rfl⟩
  rw [cL _ _ (F.ix r hm).1] at hl
  rw [(h.insd r hm hl).1] at hu;cases hu
 insd r hm hl:=by
  rw [cL _ _ (F.ix r hm).1] at hl
  refine ⟨kA _ _ _,?_⟩
  rw [cL _ _ (F.ix r hm).2.2.2.1];exact (h.insd r hm hl).2
 mv hl:=by rw [cL _ _ F.m0] at hl;rw [(h.mv hl).1] at hu;cases hu
 last hl:=by rw [cL _ _ (by omega)] at hl;rw [(h.last hl).1] at hu;cases hu
theorem Dx {α:Type} {p q:α->Bool}:∀ {l:List α},(∀ x∈l,p x=true->q x=true)->(∃ x∈l,p x=false/\q x=true)->l.countP p+1<=l.countP q
 | [],_,⟨_,hx,_⟩=>by cases hx
 | y::r,h,⟨x,hx,h1,h2⟩=>by
  have hr:r.countP p<=r.countP q:=List.countP_mono_left fun z hz=>h z (by simp [hz])
  simp only [List.countP_cons]
  rcases aC0.1 hx with rfl | hx
  ·rw [h1,h2];simp;exact hr
  ·have:=Dx (p:=p) (q:=q) (fun z hz=>h z (by simp [hz])) ⟨x,hx,h1,h2⟩
   have hy:=h y (by simp)
   cases hp:p y
   ·simp;omega
   ·rw [hy hp];simp;omega
theorem nQ.entry (h:nQ S w0 g L w) (F:zP S) {r:Nat × List UInt8 × Nat} (hr:r∈S.ins) (hu:L r.1=false) (h0:L 0=true) (hs:L r.2.2=true) (hv:∀ v w,S.V r.1 v w) (ht:prog.underlying t=some (.map 9 e)):
  ∃ b w',g 0=.map (some b)/\(Instr.mapUpdate t (.map (some b)) (.string ⟨r.2.1.toArray⟩) (g r.2.2)).run prog w=.ok () w'/\nQ S w0 g (Fx L r.1 true) w':=by
 obtain ⟨b,n,m,f,e1,e2,e3,e4,e5,e6⟩:=h.map h0
 obtain ⟨i1,i2,i3,i4,i5,i6,i7⟩:=F.ix r hr
 have hn:n<maxLen:=by
  have:=List.countP_le_length (p:=fun r:Nat × List UInt8 × Nat=>L r.1) (l:=S.ins)
  have:=F.len
  unfold maxLen;omega
 have hk:keyOf prog 9 (.string ⟨r.2.1.toArray⟩)=some (.string r.2.1):=qS ⟨r.2.1.toArray⟩ (by simp [ByteArray.size,maxLen];omega)
 obtain ⟨w',hrun,ho,hg⟩:=e4.put mP ht hn (v:=g r.2.2) hk
 have hcell:rP w w':=by
  intro a v ha
  refine hg.cell ha fun e=>?_
  obtain ⟨D,h1,_⟩:=e4
  obtain ⟨es,clock,hb,_⟩:=h1
  simp [World.cell?,e,hb] at ha
 refine ⟨b,w',e1,hrun,?_⟩
 exact {
  below:=hg.toBelow h.below h.below.size e2
  val:=fun j hl=>by
   by_cases e:j=r.1
   ·subst e;exact hv _ _
   ·rw [cL _ _ e] at hl;exact F.stable _ _ _ _ (h.val j hl) hcell
  map:=fun _=>by
   refine ⟨b,_,_,_,e1,e2,?_,ho,fun r' hm hl=>?_,fun kl hkl=>?_⟩
   ·refine aC7 (Nat.succ_le_succ e3) (Dx (fun r' hm hl=>?_) ⟨r,hr,hu,kA _ _ _⟩)
    by_cases e:r'.1=r.1
    ·rw [e,kA]
    ·rw [cL _ _ e];exact hl
   ·by_cases e:r'=r
    ·subst e;rw [mN]
    ·have hne:r'.2.1≠r.2.1:=fun x=>e ((F.apart r' hm r hr).1 (.inr x))
     have hne1:r'.1≠r.1:=fun x=>e ((F.apart r' hm r hr).1 (.inl x))
     rw [cL _ _ hne1] at hl
     rw [nB _ _ (fun x=>hne (by simpa using x))];exact e5 r' hm hl
   ·have h1:kl≠.string r.2.1:=hkl r hr (kA _ _ _)
    rw [nB _ _ h1]
    refine e6 kl fun r' hm hl=>hkl r' hm ?_
    by_cases e:r'.1=r.1
    ·rw [e,kA]
    ·rw [cL _ _ e];exact hl
  insd:=fun r' hm hl=>by
   refine ⟨by rw [cL _ _ i1.symm];exact h0,?_⟩
   by_cases e:r'.1=r.1
   ·have:r'=r:=(F.apart r' hm r hr).1 (.inl e)
    subst this
    rw [cL _ _ ((F.apart r' hm r' hm).2).symm];exact hs
   ·rw [cL _ _ e] at hl
    rw [cL _ _ ((F.apart r hr r' hm).2).symm];exact (h.insd r' hm hl).2
  mv:=fun hl=>by rw [cL _ _ i2.symm] at hl;rw [cL _ _ i1.symm];exact h.mv hl
  last:=fun hl=>by rw [cL _ _ i3.symm] at hl;rw [cL _ _ i1.symm];exact h.last hl }
theorem nQ.hand (h:nQ S w0 g L w) (F:zP S) (hi:i=S.M\/i=S.M+1) (h0:L 0=true) (hv:∀ v w,S.V i v w):nQ S w0 (Fx g i (g 0)) (Fx L i true) w:=by
 have i0:i≠0:=by have:=F.m0;omega
 have hr:∀ r∈S.ins,r.1≠i/\r.2.2≠i:=fun r hm=>by
  obtain ⟨_,i2,i3,_,i5,i6,_⟩:=F.ix r hm
  rcases hi with rfl | rfl
  ·exact ⟨i2,i5⟩
  ·exact ⟨i3,i6⟩
 exact {
  below:=h.below
  val:=fun j hl=>by
   by_cases e:j=i
   ·subst e;exact hv _ _
   ·rw [cL _ _ e] at hl ⊢;exact h.val j hl
  map:=fun _=>by
   obtain ⟨b,n,m,f,e1,e2,e3,e4,e5,e6⟩:=h.map h0
   refine ⟨b,n,m,f,by rw [cL _ _ i0.symm];exact e1,e2,?_,e4,fun r hm hl=>?_,fun kl hk=>?_⟩
   ·refine aC7 e3 (Nat.le_of_eq (List.countP_congr fun r hm=>?_))
    rw [cL _ _ (hr r hm).1]
   ·rw [cL _ _ (hr r hm).1] at hl;rw [cL _ _ (hr r hm).2];exact e5 r hm hl
   ·exact e6 kl fun r hm hl=>hk r hm (by rw [cL _ _ (hr r hm).1];exact hl)
  insd:=fun r hm hl=>by
   rw [cL _ _ (hr r hm).1] at hl
   rw [cL _ _ i0.symm,cL _ _ (hr r hm).2];exact h.insd r hm hl
  mv:=fun hl=>by
   rw [cL _ _ i0.symm,cL _ _ i0.symm]
   by_cases e:S.M=i
   ·exact ⟨h0,by rw [e,kA]⟩
   ·rw [cL _ _ e] at hl ⊢;exact h.mv hl
  last:=fun hl=>by
   rw [cL _ _ i0.symm,cL _ _ i0.symm]
   by_cases e:S.M+1=i
   ·exact ⟨h0,by rw [e,kA]⟩
   ·rw [cL _ _ e] at hl ⊢;exact h.last hl }
end
end
section
open Go.Proofs.Tryz
open Go.RowKit Go.Maps
def Dm (S:FU) (w0:World) (Q:Exit->Act->World->Prop) (i:Nat) (o:Oper):Prop:=
 ∀ g L w,nQ S w0 g L w->L i=false->(∀ e∈o.after,Region.binds .any e=true->L e.on=true) ->
  ∀ K:Act->World->Prop,(∀ g' w',nQ S w0 g' (Fx L i true) w'->K (S.fr g') w')->o.upon prog (S.fr g) K Q ((execOp (S.fr g).eval o).run prog w)
def fX (S:FU) (i:Nat):Prop:=i≠0/\i≠S.M/\i≠S.M+1/\∀ r∈S.ins,i≠r.1
section
variable {S:FU} {w0:World} {Q:Exit->Act->World->Prop}
theorem fK (F:zP S) (hi:fX S i) (hput:∀ g v,(S.fr g).put o.dst v=S.fr (Fx g i v))
  (hrun:∀ g L w,nQ S w0 g L w->(∀ e∈o.after,Region.binds .any e=true->L e.on=true)->∃ v,(execOp (S.fr g).eval o).run prog w=.ok (.value v) w/\S.V i v w):Dm S w0 Q i o:=by
 intro g L w hm hu hl K hK
 obtain ⟨v,hr,hv⟩:=hrun g L w hm hl
 rw [hr,Oper.upon_value,hput]
 exact hK _ _ (hm.value F hi.1 hi.2.1 hi.2.2.1 hi.2.2.2 hu (aDt _ _) hv)
theorem Bm (F:zP S) (hi:fX S i) (hput:∀ g v,(S.fr g).put o.dst v=S.fr (Fx g i v))
  (hrun:∀ g L w,nQ S w0 g L w->(∀ e∈o.after,Region.binds .any e=true->L e.on=true)->∃ f args,(execOp (S.fr g).eval o).run prog w=.ok (.enter f args) w/\Calls prog f args w fun e w'=>∃ v,e=.returned v/\Below w.heap.size w w'/\S.V i v w'):Dm S w0 Q i o:=by
 intro g L w hm hu hl K hK
 obtain ⟨f,args,hr,hc⟩:=hrun g L w hm hl
 rw [hr,Oper.upon_enter]
 refine hc.mono ?_
 rintro e w' ⟨v,rfl,hb,hv⟩
 simp only [hput]
 exact hK _ _ (hm.value F hi.1 hi.2.1 hi.2.2.1 hi.2.2.2 hu hb hv)
theorem DY (o) (ρ:Operand->Value) (w) (t) (ho:o.op=.makeMap t none):(execOp ρ o).run prog w=.ok (.value (.map (some w.heap.size))) (w.alloc (.map #[] 0)):=by
 have hmm:=@run_makeMap prog
 unfold execOp
 rw [ho]
 go_simp
theorem GT (o) (ρ:Operand->Value) (t) (x y z) (v k u) (w w') (ho:o.op=.insert t x y z) (hx:ρ x=v) (hy:ρ y=k) (hz:ρ z=u) (h:(Instr.mapUpdate t v k u).run prog w=.ok () w'):
  (execOp ρ o).run prog w=.ok .skip w':=by
 unfold execOp
 rw [ho]
 subst hx hy hz
 go_simp
theorem JU (F:zP S) (ho:o.op=.makeMap t none) (hv:∀ v w,S.V 0 v w) (hput:∀ g v,(S.fr g).put o.dst v=S.fr (Fx g 0 v)):Dm S w0 Q 0 o:=by
 intro g L w hm hu _ K hK
 rw [DY o _ w t ho,Oper.upon_value,hput]
 exact hK _ _ (hm.make F hu hv)
theorem jQ (F:zP S) (ht:prog.underlying t=some (.map 9 e)) {r:Nat × List UInt8 × Nat} (hr:r∈S.ins) (hv:∀ v w,S.V r.1 v w) 
  (he:∃ d∈o.after,Region.binds .any d=true/\d.on=0) (he1:∃ d∈o.after,Region.binds .any d=true/\d.on=r.2.2)
  (ho:o.op=.insert t (.tmp x) (.const (.string ⟨r.2.1.toArray⟩)) (.tmp z)) (hdst:o.dst=none) (hev:∀ g,(S.fr g).eval (.tmp x)=g 0) (hev1:∀ g,(S.fr g).eval (.tmp z)=g r.2.2) (hc:∀ g v,(S.fr g).eval (.const v)=v):Dm S w0 Q r.1 o:=by
 intro g L w hm hu hl K hK
 obtain ⟨d,hd,hb,e0⟩:=he
 obtain ⟨d1,hd1,hb1,e1⟩:=he1
 have l0:=hl d hd hb
 have l1:=hl d1 hd1 hb1
 rw [e0] at l0
 rw [e1] at l1
 obtain ⟨b,w',g0,hrun,hm'⟩:=hm.entry F hr hu l0 l1 hv ht
 rw [GT o _ t _ _ _ _ _ _ w w' ho ((hev g).trans g0) (hc g _) (hev1 g) hrun,Oper.upon_skip,hdst]
 exact hK _ _ hm'
theorem Bq (F:zP S) (hi:i=S.M\/i=S.M+1) (hv:∀ v w,S.V i v w) (he:∃ d∈o.after,Region.binds .any d=true/\(d.on=0\/d.on=S.M)) (hput:∀ g v,(S.fr g).put o.dst v=S.fr (Fx g i v))
  (hrun:∀ g L w,nQ S w0 g L w->(∀ e∈o.after,Region.binds .any e=true->L e.on=true)->(execOp (S.fr g).eval o).run prog w=.ok (.value (g 0)) w):Dm S w0 Q i o:=by
 intro g L w hm hu hl K hK
 obtain ⟨d,hd,hb,e0⟩:=he
 have l0:L 0=true:=by
  have:=hl d hd hb
  rcases e0 with e | e
  ·rwa [e] at this
  ·rw [e] at this;exact (hm.mv this).1
 rw [hrun g L w hm hl,Oper.upon_value,hput]
 exact hK _ _ (hm.hand F hi l0 hv)
def Fv (T:Nat->Oper->Prop):Nat->List Oper->Prop
 | _,[]=>True
 | k,o::r=>T k o/\Fv T (k+1) r
theorem Az {T:Nat->Oper->Prop}:∀ {l:List Oper} {k:Nat},Fv T k l->∀ i o,l[i]? = some o->T (k+i) o
 | [],_,_,i,o,h=>by simp at h
 | x::r,k,⟨h1,h2⟩,0,o,h=>by simp at h;subst h;exact h1
 | x::r,k,⟨h1,h2⟩,i+1,o,h=>by
  have:=Az h2 i o (by simpa using h)
  rw [show k+(i+1)=k+1+i from by omega]
  exact this
theorem OI {P:Program} {Q:Exit->Act->World->Prop} {K:Act->World->Prop} (ho:ops[i]? = some o) (hg:o.guard=none)
  (h:o.upon P a K Q ((execOp a.eval o).run P w)):wpOp P ops Q i K a w:=by
 unfold wpOp
 rw [ho]
 simp only [Region.wanted,hg,if_true]
 exact .inl h
theorem Dz (F:zP S) {id n:Nat} (hm:prog.follows .mixedOrders=true) (he:Region.earlier .any l.toArray=true) (hlen:l.length=n) (hg:l.all (·.guard.isNone)=true)
  (hS:Fv (Dm S w0 Q) 0 l) (g0:Nat->Value)
  (hend:∀ g L w,(∀ i,i<n->L i=true)->nQ S w0 g L w->Q .normal (S.fr g) w):(Code.region id l.toArray true).wp prog Q (S.fr g0) w0:=by
 have hz:l.toArray.size=n:=by simpa using hlen
 refine CV (Inv:=fun listed a w=>∃ g,a=S.fr g/\nQ S w0 g (fun i=>listed.getD i false) w) hm he ?_ ?_ ?_
 ·refine ⟨g0,rfl,?_⟩
  have:(fun i=>(Array.replicate l.toArray.size false).getD i false)=fun _=>false:=by
   funext i
   simp only [Array.getD_eq_getD_getElem?,Array.getElem?_replicate]
   split <;> rfl
  rw [this]
  exact nQ.start F w0 g0 _ (aDt _ _).drew
 ·rintro listed a w i o hs ⟨g,rfl,hmd⟩ ho hu hl
  have hgo:o.guard=none:=by
   have:=aB1.1 hg o (by simpa using Array.mem_of_getElem? ho)
   simpa using this
  have hi:i<listed.size:=by rw [hs];exact (Array.getElem?_eq_some_iff.1 ho).1
  refine OI ho hgo ?_
  have jS:=Az hS i o (by simpa using ho)
  rw [aDa] at jS
  refine jS g _ w hmd ?_ hl _ fun g' w' hmd'=>⟨g',rfl,?_⟩
  ·simpa [hi] using hu
  ·have:(fun j=>(listed.setIfInBounds i true).getD j false)=Fx (fun j=>listed.getD j false) i true:=by
    funext j
    unfold Fx
    split
    ·rename_i e;subst e;simp [hi]
    ·rename_i e;simp [Ne.symm e]
   rw [this]
   exact hmd'
 ·rintro listed a w hall ⟨g,rfl,hmd⟩
  exact hend g _ w (fun i hi=>hall i (by omega)) hmd
end
end
def jJ (b j:Nat) (v:Value) (w w':World):Prop:=
 ∃ w1,Below w.heap.size w w1/\Below w1.heap.size (w1.setCell ⟨b,j,none⟩ v) w'
theorem jJ.now (b j) (v) (w):jJ b j v w (w.setCell ⟨b,j,none⟩ v):=⟨w,aDt _ _,aDt _ _⟩
theorem jJ.only (h:jJ b j v w w'):aS b w w':=by
 obtain ⟨w1,h1,h2⟩:=h
 exact (((aS.refl b w).below h1).setCell j v).below (by simpa [World.setCell] using h2)
theorem jJ.next (h:jJ b j v w w1) (k:Below w1.heap.size w1 w'):jJ b j v w w':=by
 obtain ⟨w0,h1,h2⟩:=h
 refine ⟨w0,h1,h2.trans (k.mono ?_)⟩
 have:=h2.size
 simpa [World.setCell] using this
theorem jJ.later (h:jJ b j v w w') (k:Below w0.heap.size w0 w):jJ b j v w0 w':=by
 obtain ⟨w1,h1,h2⟩:=h
 exact ⟨w1,aDu k h1,h2⟩
theorem jJ.here (h:jJ b j v w w') (hc:w.cell? ⟨b,j,none⟩=some u):w'.cell? ⟨b,j,none⟩=some v:=by
 obtain ⟨w1,h1,h2⟩:=h
 have hc1:=aDy h1 hc
 have:(w1.setCell ⟨b,j,none⟩ v).cell? ⟨b,j,none⟩=some v:=World.cell?_setCell_same' _ _ _ (by rw [hc1];rfl)
 exact (h2.cell (p:=⟨b,j,none⟩) (World.block_lt_of_cell? w1 _ hc1)).trans this
def Lw:ByteArray:=⟨#[112,117,98,108,105,99]⟩
def RO (l:List UInt8):Bool:=decide (mA l=0)&&decide (0<gR l)
theorem ST {a b:Int} (hs:s.size<=140737488351232) (hu:lA w) (ha:gR s.data.toList=a) (hb:mA s.data.toList=b):Calls prog 227 #[.string s] w fun e w'=>e=.returned (.tuple #[zi a,zi b])/\Below w.heap.size w w':=by
 subst ha hb
 exact Rt s w hs hu
set_option maxRecDepth 100000 in
set_option maxHeartbeats 800000 in
theorem TO (s:ByteArray) (bv bp bd:Nat) (u:Value) (w:World) (v1 e1:Int) (hv1:Hid (gR s.data.toList=v1)) (he1:Hid (mA s.data.toList=e1)) (hs:s.size<=140737488351232) (hu:lA w) (h1:w.cell? ⟨bv,0,none⟩=some (.string s)) (h2:w.cell? ⟨bp,0,none⟩=some (.pointer (some ⟨bd,0,none⟩)))
  (hc:w.cell? ⟨bd,3,none⟩=some u) (hf:w.frozen? ⟨bd,3,none⟩=false):
  Calls prog 226 #[.pointer (some ⟨bv,0,none⟩),.pointer (some ⟨bp,0,none⟩)] w fun e w'=>e=.returned (.bool (decide (e1=0)&&decide (0<v1)))/\jJ bd 3 (zi v1) w w':=by
 go_enter func226, ntmps226
 go_wp2_with fail
 with_reducible refine (ST hs hu hv1.out he1.out).mono ?_
 rintro e w1 ⟨rfl,hb1⟩
 have k1:=aDy hb1 h1
 have k2:=aDy hb1 h2
 have k3:=aDy hb1 hc
 have k4:=Below.keepF hb1 hc hf
 have HB:=aEb (show jJ bd 3 (zi v1) w (w1.setCell ⟨bd,3,none⟩ (zi v1)) from ⟨w1,hb1,aDt _ _⟩)
 clear hb1 h1 h2 hc hf
 by_cases he:e1=0
 ·subst he
  go_wp2
  go_ret
  exact ⟨by simp,HB.out⟩
 ·have he':(e1 == 0)=false:=by rw [beq_eq_false_iff_ne];exact he
  go_wp2
  go_ret
  exact ⟨by simp [he],HB.out⟩
theorem Zw (s) (bv bp bd) (u) (w) (hs:s.size<=140737488351232) (hu:lA w) (h1:w.cell? ⟨bv,0,none⟩=some (.string s)) (h2:w.cell? ⟨bp,0,none⟩=some (.pointer (some ⟨bd,0,none⟩)))
  (hc:w.cell? ⟨bd,3,none⟩=some u) (hf:w.frozen? ⟨bd,3,none⟩=false):
  Calls prog 226 #[.pointer (some ⟨bv,0,none⟩),.pointer (some ⟨bp,0,none⟩)] w fun e w'=>e=.returned (.bool (RO s.data.toList))/\jJ bd 3 (zi (gR s.data.toList)) w w':=
 TO s bv bp bd u w _ _ (aEb rfl) (aEb rfl) hs hu h1 h2 hc hf
set_option maxRecDepth 100000 in
set_option maxHeartbeats 800000 in
theorem c228 (bv bd j:Nat) (w:World):Calls prog 228 #[.pointer (some ⟨bd,j,none⟩),.pointer (some ⟨bv,0,none⟩)] w fun e w'=>e=.returned (.func (.func 229) #[] #[.pointer (some ⟨bv,0,none⟩),.pointer (some ⟨w.heap.size,0,none⟩)])/\w'=w.alloc (.cells #[.pointer (some ⟨bd,j,none⟩)] 313):=by
 go_enter func228, ntmps228
 go_wp2
 go_ret
 exact ⟨rfl,rfl⟩
theorem US {b:Bool} (hs:s.size<=140737488351232) (h:dK s.data.toList=b):Calls prog 99 #[.string s] w fun e w'=>e=.returned (.bool b)/\Below w.heap.size w w':=by
 subst h
 exact lO s w hs
set_option maxRecDepth 100000 in
set_option maxHeartbeats 800000 in
theorem c229 (s:ByteArray) (bv bn bd j:Nat) (u:Value) (w:World) (hs:s.size<=140737488351232) (hne:bv≠bd) (h1:w.cell? ⟨bv,0,none⟩=some (.string s)) (h2:w.cell? ⟨bn,0,none⟩=some (.pointer (some ⟨bd,j,none⟩)))
  (hc:w.cell? ⟨bd,j,none⟩=some u) (hf:w.frozen? ⟨bd,j,none⟩=false):
  Calls prog 229 #[.pointer (some ⟨bv,0,none⟩),.pointer (some ⟨bn,0,none⟩)] w fun e w'=>e=.returned (.bool (dK s.data.toList))/\jJ bd j (.string s) w w':=by
 have k1:(w.setCell ⟨bd,j,none⟩ (.string s)).cell? ⟨bv,0,none⟩=some (.string s):=(World.cell?_setCell_other _ _ _ _ (fun e=>hne (by simpa using (aD7 Addr.block e).symm))).trans h1
 go_enter func229, ntmps229
 go_wp2_with fail
 with_reducible refine (US hs rfl).mono ?_
 rintro e w2 ⟨rfl,hb2⟩
 have HB:=aEb ((jJ.now bd j (.string s) w).next hb2)
 clear hb2
 go_wp2
 go_ret
 exact ⟨rfl,HB.out⟩
set_option maxRecDepth 100000 in
set_option maxHeartbeats 800000 in
theorem TI (s:ByteArray) (bv bp bd:Nat) (u:Value) (w:World) (x y:Bool) (hx:(s.toList == [112,117,98,108,105,99])=x) (hy:(s.toList == [112,114,105,118,97,116,101])=y) (hne:bv≠bd) (hnp:bp≠bd) (h1:w.cell? ⟨bv,0,none⟩=some (.string s)) (h2:w.cell? ⟨bp,0,none⟩=some (.pointer (some ⟨bd,0,none⟩)))
  (hc:w.cell? ⟨bd,4,none⟩=some u) (hf:w.frozen? ⟨bd,4,none⟩=false):
  Calls prog 230 #[.pointer (some ⟨bv,0,none⟩),.pointer (some ⟨bp,0,none⟩)] w fun e w'=>e=.returned (.bool (x||y))/\jJ bd 4 (.bool x) w w':=by
 have k1:(w.setCell ⟨bd,4,none⟩ (.bool x)).cell? ⟨bv,0,none⟩=some (.string s):=(World.cell?_setCell_other _ _ _ _ (fun e=>hne (by simpa using (aD7 Addr.block e).symm))).trans h1
 have k2:(w.setCell ⟨bd,4,none⟩ (.bool x)).cell? ⟨bp,0,none⟩=some (.pointer (some ⟨bd,0,none⟩)):=(World.cell?_setCell_other _ _ _ _ (fun e=>hnp (by simpa using (aD7 Addr.block e).symm))).trans h2
 have k3:(w.setCell ⟨bd,4,none⟩ (.bool x)).cell? ⟨bd,4,none⟩=some (.bool x):=World.cell?_setCell_same' _ _ _ (by rw [hc];rfl)
 have HB:=aEb (jJ.now bd 4 (.bool x) w)
 cases x <;> cases y
 all_goals
  go_enter func230, ntmps230
  go_wp2
  go_ret
  exact ⟨rfl,HB.out⟩
section
open Go.Proofs.Tryz
open Go.RowKit Go.Maps
def kU (b j:Nat):Value:=.pointer (some ⟨b,j,none⟩)
def FE (H:Nat):Value:=.func (.func 226) #[] #[kU (H+1) 0,kU H 0]
def f228 (H:Nat):Value:=.func (.func 228) #[] #[kU (H+1) 0]
def GF (H n:Nat):Value:=.func (.func 229) #[] #[kU (H+1) 0,kU n 0]
def TE (H:Nat):Value:=.func (.func 230) #[] #[kU (H+1) 0,kU H 0]
def nG:List UInt8:=[99,97,112,97,99,105,116,121]
def nA:List UInt8:=[115,105,122,101]
def nH:List UInt8:=[110,97,109,101]
def nL:List UInt8:=[112,111,111,108]
def jW:List UInt8:=[97,99,99,101,115,115]
def qO (bd:Nat) (s:ByteArray) (w:World):World:=(w.alloc (.cells #[kU bd 0] 271)).alloc (.cells #[.string s] 9)
def lC (bd:Nat) (key s:ByteArray) (H:Nat):FU where
 fr g:=⟨#[kU bd 0,.string key,.string s,kU H 0,undef,kU (H+1) 0,.bool false,FE H,f228 H,g 20,FE H,f228 H,g 0,g 1,g 3,g 5,g 6,g 7,g 8,g 9,g 11,g 12,g 13,g 14,g 15,g 17,g 19,undef,undef,undef,undef],[]⟩
 V i v w:=match i with
  | 1 | 3=>v=FE H
  | 5 | 11=>v=f228 H
  | 6 | 7 | 12 | 13=>v=kU bd 0
  | 8=>v=kU bd 1
  | 14=>v=kU bd 2
  | 9=>∃ n,v=GF H n/\w.cell? ⟨n,0,none⟩=some (kU bd 1)
  | 15=>∃ n,v=GF H n/\w.cell? ⟨n,0,none⟩=some (kU bd 2)
  | 17=>v=TE H
  | _=>True
 ins:=[(2,nG,1),(4,nA,3),(10,nH,9),(16,nL,15),(18,jW,17)]
 M:=19
theorem jH (bd) (key s) (H):zP (lC bd key s H) where
 stable i v w w' h hc:=by
  unfold lC at *
  dsimp only at *
  split at h <;> try exact h
  ·obtain ⟨n,h1,h2⟩:=h;exact ⟨n,h1,hc _ _ h2⟩
  ·obtain ⟨n,h1,h2⟩:=h;exact ⟨n,h1,hc _ _ h2⟩
 ix:=by simp [lC,nG,nA,nH,nL,jW]
 apart:=by simp [lC,nG,nA,nH,nL,jW]
 len:=by simp [lC]
 m0:=by simp [lC]
theorem As (bd) (s) (w):(qO bd s w).heap.size=w.heap.size+2:=by simp [qO]
theorem BJ (bd) (s) (w):(qO bd s w).cell? ⟨w.heap.size,0,none⟩=some (kU bd 0):=xK ((kE w _ _ _ rfl).trans rfl)
theorem Qk (bd) (s) (w):(qO bd s w).cell? ⟨w.heap.size+1,0,none⟩=some (.string s):=(kE _ _ _ _ (by simp)).trans rfl
def Does (bd:Nat) (s:ByteArray) (w:World) (v:Value) (wx:World):Prop:=
 ∃ b n m f x y,v=.map (some b)/\Below (qO bd s w).heap.size (qO bd s w) wx/\dR 9 b n m f wx/\f (.string nG)=some (FE w.heap.size)/\f (.string nA)=some (FE w.heap.size)/\f (.string nH)=some (GF w.heap.size x)/\f (.string nL)=some (GF w.heap.size y) /\
  f (.string jW)=some (TE w.heap.size)/\wx.cell? ⟨x,0,none⟩=some (kU bd 1)/\wx.cell? ⟨y,0,none⟩=some (kU bd 2)
theorem SI {g:Nat->Value} {L:Nat->Bool} (hL:∀ i,i<21->L i=true) (h:nQ (lC bd key s w.heap.size) (qO bd s w) g L wx):Does bd s w (g 20) wx:=by
 obtain ⟨b,n,m,f,e1,e2,e3,e4,e5,e6⟩:=h.map (hL 0 (by decide))
 have h20:=(h.last (hL 20 (by decide))).2
 have v1:g 1=FE w.heap.size:=h.val 1 (hL 1 (by decide))
 have v3:g 3=FE w.heap.size:=h.val 3 (hL 3 (by decide))
 obtain ⟨x,v9,c9⟩:∃ n,g 9=GF w.heap.size n/\wx.cell? ⟨n,0,none⟩=some (kU bd 1):=h.val 9 (hL 9 (by decide))
 obtain ⟨y,v15,c15⟩:∃ n,g 15=GF w.heap.size n/\wx.cell? ⟨n,0,none⟩=some (kU bd 2):=h.val 15 (hL 15 (by decide))
 have v17:g 17=TE w.heap.size:=h.val 17 (hL 17 (by decide))
 have i1:=e5 (2,nG,1) (by simp [lC]) (hL 2 (by decide))
 have i2:=e5 (4,nA,3) (by simp [lC]) (hL 4 (by decide))
 have i3:=e5 (10,nH,9) (by simp [lC]) (hL 10 (by decide))
 have i4:=e5 (16,nL,15) (by simp [lC]) (hL 16 (by decide))
 have i5:=e5 (18,jW,17) (by simp [lC]) (hL 18 (by decide))
 exact ⟨b,n,m,f,x,y,h20.trans e1,h.below,e4,i1.trans (by rw [v1]),i2.trans (by rw [v3]),i3.trans (by rw [v9]),i4.trans (by rw [v15]),i5.trans (by rw [v17]),c9,c15⟩
theorem DQ (o) (ρ:Operand->Value) (x) (w) (a) (b j) (ho:o.op=.load 271 x) (hx:ρ x=.pointer (some a)) (h:w.cell? a=some (kU b j)):(execOp ρ o).run prog w=.ok (.value (kU b j)) w:=by
 unfold execOp
 rw [ho]
 unfold kU at *
 go_simp
theorem Gt (o) (ρ:Operand->Value) (x) (w) (b j) (ho:o.op=.nilCheck x) (hx:ρ x=kU b j):(execOp ρ o).run prog w=.ok (.value (kU b j)) w:=by
 unfold execOp
 rw [ho]
 unfold kU at *
 go_simp
theorem FD (o) (ρ:Operand->Value) (x) (w) (b j) (hj:j=1\/j=2) (ho:o.op=.fieldAddr 220 x j) (hx:ρ x=kU b 0):(execOp ρ o).run prog w=.ok (.value (kU b j)) w:=by
 unfold execOp
 rw [ho]
 unfold kU at *
 rcases hj with rfl | rfl <;> go_simp
theorem DR (o) (ρ:Operand->Value) (x y) (w) (H b j) (ho:o.op=.call { callee:=.value x,args:=#[y],argTypes:=#[313] }) (hx:ρ x=f228 H) (hy:ρ y=kU b j):(execOp ρ o).run prog w=.ok (.enter 228 #[kU b j,kU (H+1) 0]) w:=by
 unfold execOp
 rw [ho]
 unfold f228 kU at *
 go_simp
theorem Oo (H b j) (w):Calls prog 228 #[kU b j,kU (H+1) 0] w fun e w'=>∃ v,e=.returned v/\Below w.heap.size w w'/\∃ n,v=GF H n/\w'.cell? ⟨n,0,none⟩=some (kU b j):=by
 refine (c228 (H+1) b j w).mono ?_
 rintro e w' ⟨rfl,rfl⟩
 exact ⟨_,rfl,(aDt _ _).alloc (aDl _) _,_,rfl,(kE _ _ _ _ rfl).trans rfl⟩
def BM (b:Nat) (w:World):Prop:=∀ j,j<5->∃ u,w.cell? ⟨b,j,none⟩=some u/\w.frozen? ⟨b,j,none⟩=false
theorem BM.lt (h:BM b w):b<w.heap.size:=let ⟨_,h1,_⟩:=h 0 (by decide);World.block_lt_of_cell? w _ h1
theorem BM.below (h:BM b w) (k:Below w.heap.size w w'):BM b w':=fun j hj=>by
 obtain ⟨u,h1,h2⟩:=h j hj
 exact ⟨u,aDy k h1,Below.keepF k h1 h2⟩
theorem BK (w):(zeroValue 22).run prog w=.ok .nilFunc w:=by kernel_rfl
def Ux (s:ByteArray):Bool:=s.toList == [112,117,98,108,105,99]
def Wf (s:ByteArray):Bool:=s.toList == [112,114,105,118,97,116,101]
def vB (key:List UInt8) (s:ByteArray):Nat × Value × Bool:=
 if key=nG\/key=nA then (3,zi (gR s.data.toList),RO s.data.toList) else if key=nH then (1,.string s,dK s.data.toList) else if key=nL then (2,.string s,dK s.data.toList)
 else (4,.bool (Ux s),Ux s||Wf s)
def nS (bd:Nat) (key:List UInt8) (s:ByteArray) (w:World) (e:Ending) (w':World):Prop:=e=.returned (.bool (vB key s).2.2)/\jJ bd (vB key s).1 (vB key s).2.1 w w'
theorem nS.mk {ok:Bool} {e:Ending} (h:vB key s=(j,v,ok)) (hb:Below w.heap.size w wx) (he:e=.returned (.bool ok)) (hw:jJ bd j v wx w'):nS bd key s w e w':=by
 unfold nS
 rw [h]
 exact ⟨he,hw.later hb⟩
set_option maxRecDepth 100000 in
set_option maxHeartbeats 1600000 in
theorem TK (bd:Nat) (key s:ByteArray) (w:World) (hs:s.size<=140737488351232) (hu:lA w) (hd:BM bd w) (hkey:key.data.toList=nG\/key.data.toList=nA\/key.data.toList=nH\/key.data.toList=nL\/key.data.toList=jW):
  Calls prog 186 #[kU bd 0,.string key,.string s] w (nS bd key.data.toList s w):=by
 have hlt:=hd.lt
 go_enter func186, ntmps186
 go_upto_region 3 with fail
 go_cut [9] from 12 to 26 (fun s9 wx => Does bd s w s9 wx)
 case first=>
  rename_i J K' hJ hK
  refine Dz (jH bd key s w.heap.size) (w0:=qO bd s w) (n:=21) (by kernel_rfl) (by kernel_rfl) rfl (by kernel_rfl) ?_ (fun _=>undef) ?_
  ·refine ⟨?_,?_,?_,?_,?_,?_,?_,?_,?_,?_,?_,?_,?_,?_,?_,?_,?_,?_,?_,?_,?_,trivial⟩
   ·exact JU (jH bd key s w.heap.size) rfl (fun _ _=>trivial) (fun _ _=>rfl)
   ·exact fK (jH bd key s w.heap.size) (by simp [fX,lC]) (fun _ _=>rfl) (fun g L wx hm hl=>⟨_,by kernel_rfl,rfl⟩)
   ·exact jQ (jH bd key s w.heap.size) underlying315 (r:=(2,nG,1)) (by simp [lC]) (fun _ _=>trivial) ⟨⟨0,.data⟩,by simp,rfl,rfl⟩ ⟨⟨1,.data⟩,by simp,rfl,rfl⟩ rfl rfl (fun _=>rfl) (fun _=>rfl) (fun _ _=>rfl)
   ·exact fK (jH bd key s w.heap.size) (by simp [fX,lC]) (fun _ _=>rfl) (fun g L wx hm hl=>⟨_,by kernel_rfl,rfl⟩)
   ·exact jQ (jH bd key s w.heap.size) underlying315 (r:=(4,nA,3)) (by simp [lC]) (fun _ _=>trivial) ⟨⟨0,.data⟩,by simp,rfl,rfl⟩ ⟨⟨3,.data⟩,by simp,rfl,rfl⟩ rfl rfl (fun _=>rfl) (fun _=>rfl) (fun _ _=>rfl)
   ·exact fK (jH bd key s w.heap.size) (by simp [fX,lC]) (fun _ _=>rfl) (fun g L wx hm hl=>⟨_,by kernel_rfl,rfl⟩)
   ·exact fK (jH bd key s w.heap.size) (by simp [fX,lC]) (fun _ _=>rfl) (fun g L wx hm hl=>⟨kU bd 0,DQ _ _ (.tmp 3) wx _ bd 0 rfl rfl ((hm.below.cell (by rw [As];show w.heap.size<_;omega)).trans (BJ bd s w)),rfl⟩)
   ·exact fK (jH bd key s w.heap.size) (by simp [fX,lC]) (fun _ _=>rfl) (fun g L wx hm hl=>⟨kU bd 0,Gt _ _ _ wx bd 0 rfl (hm.val 6 (hl ⟨6,.data⟩ (by simp) rfl)),rfl⟩)
   ·exact fK (jH bd key s w.heap.size) (by simp [fX,lC]) (fun _ _=>rfl) (fun g L wx hm hl=>⟨kU bd 1,FD _ _ _ wx bd 1 (by omega) rfl (hm.val 7 (hl ⟨7,.data⟩ (by simp) rfl)),rfl⟩)
   ·exact Bm (jH bd key s w.heap.size) (by simp [fX,lC]) (fun _ _=>rfl) (fun g L wx hm hl=>⟨228,_,DR _ _ _ _ wx w.heap.size bd 1 rfl (hm.val 5 (hl ⟨5,.data⟩ (by simp) rfl)) (hm.val 8 (hl ⟨8,.data⟩ (by simp) rfl)),Oo _ _ _ _⟩)
   ·exact jQ (jH bd key s w.heap.size) underlying315 (r:=(10,nH,9)) (by simp [lC]) (fun _ _=>trivial) ⟨⟨0,.data⟩,by simp,rfl,rfl⟩ ⟨⟨9,.data⟩,by simp,rfl,rfl⟩ rfl rfl (fun _=>rfl) (fun _=>rfl) (fun _ _=>rfl)
   ·exact fK (jH bd key s w.heap.size) (by simp [fX,lC]) (fun _ _=>rfl) (fun g L wx hm hl=>⟨_,by kernel_rfl,rfl⟩)
   ·exact fK (jH bd key s w.heap.size) (by simp [fX,lC]) (fun _ _=>rfl) (fun g L wx hm hl=>⟨kU bd 0,DQ _ _ (.tmp 3) wx _ bd 0 rfl rfl ((hm.below.cell (by rw [As];show w.heap.size<_;omega)).trans (BJ bd s w)),rfl⟩)
   ·exact fK (jH bd key s w.heap.size) (by simp [fX,lC]) (fun _ _=>rfl) (fun g L wx hm hl=>⟨kU bd 0,Gt _ _ _ wx bd 0 rfl (hm.val 12 (hl ⟨12,.data⟩ (by simp) rfl)),rfl⟩)
   ·exact fK (jH bd key s w.heap.size) (by simp [fX,lC]) (fun _ _=>rfl) (fun g L wx hm hl=>⟨kU bd 2,FD _ _ _ wx bd 2 (by omega) rfl (hm.val 13 (hl ⟨13,.data⟩ (by simp) rfl)),rfl⟩)
   ·exact Bm (jH bd key s w.heap.size) (by simp [fX,lC]) (fun _ _=>rfl) (fun g L wx hm hl=>⟨228,_,DR _ _ _ _ wx w.heap.size bd 2 rfl (hm.val 11 (hl ⟨11,.data⟩ (by simp) rfl)) (hm.val 14 (hl ⟨14,.data⟩ (by simp) rfl)),Oo _ _ _ _⟩)
   ·exact jQ (jH bd key s w.heap.size) underlying315 (r:=(16,nL,15)) (by simp [lC]) (fun _ _=>trivial) ⟨⟨0,.data⟩,by simp,rfl,rfl⟩ ⟨⟨15,.data⟩,by simp,rfl,rfl⟩ rfl rfl (fun _=>rfl) (fun _=>rfl) (fun _ _=>rfl)
   ·exact fK (jH bd key s w.heap.size) (by simp [fX,lC]) (fun _ _=>rfl) (fun g L wx hm hl=>⟨_,by kernel_rfl,rfl⟩)
   ·exact jQ (jH bd key s w.heap.size) underlying315 (r:=(18,jW,17)) (by simp [lC]) (fun _ _=>trivial) ⟨⟨0,.data⟩,by simp,rfl,rfl⟩ ⟨⟨17,.data⟩,by simp,rfl,rfl⟩ rfl rfl (fun _=>rfl) (fun _=>rfl) (fun _ _=>rfl)
   ·exact Bq (jH bd key s w.heap.size) (.inl rfl) (fun _ _=>trivial) ⟨⟨0,.data⟩,by simp,rfl,.inl rfl⟩ (fun _ _=>rfl) (fun g L wx hm hl=>by kernel_rfl)
   ·exact Bq (jH bd key s w.heap.size) (.inr rfl) (fun _ _=>trivial) ⟨⟨19,.data⟩,by simp,rfl,.inr rfl⟩ (fun _ _=>rfl) (fun g L wx hm hl=>by rw [<- (hm.mv (hl ⟨19,.data⟩ (by simp) rfl)).2];kernel_rfl)
  ·intro g L wx hL hm
   have hD:=SI hL hm
   refine hK _ _ (Met.intro (hJ _ _ ?_))
   (repeat apply Exists.intro)
   refine ⟨?rel,rfl⟩
   case rel=>exact hD
 case rest=>
  obtain ⟨b,n,m,f,x,y,rfl,hbl,hM,i1,i2,i3,i4,i5,c9,c15⟩:=hcut
  have hb0:Below w.heap.size w (qO bd s w):=((aDt _ _).alloc (aDl _) _).alloc (by simp) _
  have hbw:=aDu hb0 hbl
  have cv:wc.cell? ⟨w.heap.size+1,0,none⟩=some (.string s):=aDy hbl (Qk bd s w)
  have cp:wc.cell? ⟨w.heap.size,0,none⟩=some (kU bd 0):=aDy hbl (BJ bd s w)
  have hd':=hd.below hbw
  have hu':=hu.below hbw
  have hks:key.size<=maxLen:=by
   have:key.data.toList.length<=8:=by rcases hkey with h | h | h | h | h <;> rw [h] <;> decide
   have h2:key.data.toList.length=key.size:=by simp
   unfold maxLen;omega
  have hK:=qS key hks
  have HF:Hid (∀ k v,key.data.toList=k->f (.string k)=some v->(f (.string key.data.toList)).getD .nilFunc=v):=aEb (fun k v h1 h2=>by rw [h1,h2];rfl)
  have HB:=aEb hbw
  clear hb0 hbl hbw
  have HK:=aEb hkey
  have HK2:=aEb hK
  clear hkey hK
  unfold FE at i1 i2
  unfold GF at i3 i4
  unfold TE at i5
  unfold kU at *
  rcases HK.out with h | h | h | h | h
  ·have HH:=aEb h
   clear h
   go_wp2_with (refine gT rfl (.tmp 27) (.tmp 28) 315 rfl mP underlying315 BK hM rfl _ rfl HK2.out ?_; intro v hv0; have hv1 := hv0.trans (HF.out _ _ HH.out i1); clear hv0; subst hv1)
   obtain ⟨u,hc,hf⟩:=hd' 3 (by decide)
   with_reducible refine (Zw s _ _ bd u _ hs hu' cv cp hc hf).mono ?_
   rintro e w2 ⟨rfl,hw⟩
   have HP:=aEb (nS.mk (key:=key.data.toList) (by rw [HH.out];simp [vB,nG,nA,nH,nL,jW];exact ⟨rfl,rfl⟩) HB.out rfl hw)
   clear hw
   go_wp2
   go_ret
   exact HP.out
  ·have HH:=aEb h
   clear h
   go_wp2_with (refine gT rfl (.tmp 27) (.tmp 28) 315 rfl mP underlying315 BK hM rfl _ rfl HK2.out ?_; intro v hv0; have hv1 := hv0.trans (HF.out _ _ HH.out i2); clear hv0; subst hv1)
   obtain ⟨u,hc,hf⟩:=hd' 3 (by decide)
   with_reducible refine (Zw s _ _ bd u _ hs hu' cv cp hc hf).mono ?_
   rintro e w2 ⟨rfl,hw⟩
   have HP:=aEb (nS.mk (key:=key.data.toList) (by rw [HH.out];simp [vB,nG,nA,nH,nL,jW];exact ⟨rfl,rfl⟩) HB.out rfl hw)
   clear hw
   go_wp2
   go_ret
   exact HP.out
  ·have HH:=aEb h
   clear h
   go_wp2_with (refine gT rfl (.tmp 27) (.tmp 28) 315 rfl mP underlying315 BK hM rfl _ rfl HK2.out ?_; intro v hv0; have hv1 := hv0.trans (HF.out _ _ HH.out i3); clear hv0; subst hv1)
   obtain ⟨u,hc,hf⟩:=hd' 1 (by decide)
   with_reducible refine (c229 s _ _ bd 1 u _ hs (by omega) cv c9 hc hf).mono ?_
   rintro e w2 ⟨rfl,hw⟩
   have HP:=aEb (nS.mk (key:=key.data.toList) (by rw [HH.out];simp [vB,nG,nA,nH,nL,jW];exact ⟨rfl,rfl⟩) HB.out rfl hw)
   clear hw
   go_wp2
   go_ret
   exact HP.out
  ·have HH:=aEb h
   clear h
   go_wp2_with (refine gT rfl (.tmp 27) (.tmp 28) 315 rfl mP underlying315 BK hM rfl _ rfl HK2.out ?_; intro v hv0; have hv1 := hv0.trans (HF.out _ _ HH.out i4); clear hv0; subst hv1)
   obtain ⟨u,hc,hf⟩:=hd' 2 (by decide)
   with_reducible refine (c229 s _ _ bd 2 u _ hs (by omega) cv c15 hc hf).mono ?_
   rintro e w2 ⟨rfl,hw⟩
   have HP:=aEb (nS.mk (key:=key.data.toList) (by rw [HH.out];simp [vB,nG,nA,nH,nL,jW];exact ⟨rfl,rfl⟩) HB.out rfl hw)
   clear hw
   go_wp2
   go_ret
   exact HP.out
  ·have HH:=aEb h
   clear h
   go_wp2_with (refine gT rfl (.tmp 27) (.tmp 28) 315 rfl mP underlying315 BK hM rfl _ rfl HK2.out ?_; intro v hv0; have hv1 := hv0.trans (HF.out _ _ HH.out i5); clear hv0; subst hv1)
   obtain ⟨u,hc,hf⟩:=hd' 4 (by decide)
   with_reducible refine (TI s _ _ bd u _ _ _ rfl rfl (by omega) (by omega) cv cp hc hf).mono ?_
   rintro e w2 ⟨rfl,hw⟩
   have HP:=aEb (nS.mk (key:=key.data.toList) (by rw [HH.out];simp [vB,nG,nA,nH,nL,jW,Ux,Wf];exact ⟨rfl,rfl⟩) HB.out rfl hw)
   clear hw
   go_wp2
   go_ret
   exact HP.out
end
def cC:Nat->List ByteArray
 | 1=>[⟨#[99,97,112,97,99,105,116,121]⟩,⟨#[112,111,111,108]⟩]
 | 2=>[⟨#[115,105,122,101]⟩]
 | 3=>[⟨#[115,105,122,101]⟩]
 | 4=>[⟨#[110,97,109,101]⟩,⟨#[99,97,112,97,99,105,116,121]⟩,⟨#[112,111,111,108]⟩,⟨#[97,99,99,101,115,115]⟩]
 | 5=>[⟨#[110,97,109,101]⟩]
 | 6=>[⟨#[110,97,109,101]⟩]
 | _=>[]
theorem Yn (w):(zeroValue 95).run prog w=.ok (cP) w:=by kernel_rfl
theorem vC (W:World) (cs:Array Value) (t) (n) (hn:cs.size=n) (hm:n<=maxLen):Rd 1 (W.alloc (.cells cs t)) (.slice (some ⟨W.heap.size,0,none⟩) n n) n n cs.toList:=by
 subst hn
 exact ⟨by simp,aDl _,hm,.inr ⟨_,_,rfl,by simp,fun j u hu=>(kE W cs t (0+j) rfl).trans (by simpa using hu)⟩⟩
def Texts (l:List ByteArray) (w:World) (e:Ending) (w':World):Prop:=
 ∃ b n,e=.returned (.slice b n n)/\Rd 1 w' (.slice b n n) n n (sv l)/\Below w.heap.size w w'/\(∀ k,(Value.slice b n n).ownBlock=some k->w.heap.size<=k)
set_option maxRecDepth 100000 in
set_option maxHeartbeats 1600000 in
theorem CD (k:Nat) (hk:1<=k/\k<=6) (w:World):Calls prog 185 #[.int .u8 (k:Int)] w (Texts (cC k) w):=by
 have hM0:=dR.made w 5
 have hmm:=@run_makeMap prog
 have h0:0<=(k:Int):=by omega
 have h1:(k:Int)<=255:=by omega
 go_enter func185, ntmps185
 go_wp2_with (first
  | (refine kM rfl (.tmp 3) (.const (.int .u8 1)) (.tmp 4) 310 (.inl rfl) Er underlying310 (hM0.alloc _) (by decide) rfl _ _ rfl rfl (EH 1 (by decide) (by decide)) ?_;intro w1 hM1 hO1)
  | (refine kM rfl (.tmp 3) (.const (.int .u8 2)) (.tmp 5) 310 (.inl rfl) Er underlying310 (hM1.alloc _) (by decide) rfl _ _ rfl rfl (EH 2 (by decide) (by decide)) ?_;intro w2 hM2 hO2)
  | (refine kM rfl (.tmp 3) (.const (.int .u8 3)) (.tmp 6) 310 (.inl rfl) Er underlying310 (hM2.alloc _) (by decide) rfl _ _ rfl rfl (EH 3 (by decide) (by decide)) ?_;intro w3 hM3 hO3)
  | (refine kM rfl (.tmp 3) (.const (.int .u8 4)) (.tmp 7) 310 (.inl rfl) Er underlying310 (hM3.alloc _) (by decide) rfl _ _ rfl rfl (EH 4 (by decide) (by decide)) ?_;intro w4 hM4 hO4)
  | (refine kM rfl (.tmp 3) (.const (.int .u8 5)) (.tmp 8) 310 (.inl rfl) Er underlying310 (hM4.alloc _) (by decide) rfl _ _ rfl rfl (EH 5 (by decide) (by decide)) ?_;intro w5 hM5 hO5)
  | (refine kM rfl (.tmp 3) (.const (.int .u8 6)) (.tmp 9) 310 (.inl rfl) Er underlying310 (hM5.alloc _) (by decide) rfl _ _ rfl rfl (EH 6 (by decide) (by decide)) ?_;intro w6 hM6 hO6)
  | (refine gT rfl (.tmp 10) (.tmp 11) 310 rfl Er underlying310 Yn hM6 rfl _ rfl (EH _ h0 h1) ?_;intro v hv0;have hv:=aEb hv0;clear hv0))
 have H6:=aS.refl w.heap.size w6
 have H5:=(((aS.refl w.heap.size w5).alloc _).trans hO6).trans H6
 have H4:=(((aS.refl w.heap.size w4).alloc _).trans hO5).trans H5
 have H3:=(((aS.refl w.heap.size w3).alloc _).trans hO4).trans H4
 have H2:=(((aS.refl w.heap.size w2).alloc _).trans hO3).trans H3
 have H1:=(((aS.refl w.heap.size w1).alloc _).trans hO2).trans H2
 have z1:=hO1.size
 have z2:=hO2.size
 have z3:=hO3.size
 have z4:=hO4.size
 have z5:=hO5.size
 have z6:=hO6.size
 simp only [aB6] at z1 z2 z3 z4 z5 z6
 have hbl:Below w.heap.size w w6:=(((hO1.trans H1)).toBelow (((aDt _ w).alloc (aDl _) _).alloc (by simp) _) (by simp;omega) (aDl _))
 have R1:=(vC _ _ _ 2 rfl (by decide)).only (hO1.trans H1) (by simp [Value.ownBlock])
 rw [show (w.alloc (Obj.map #[] 0)).heap.size=w.heap.size+1 by simp] at R1
 have R2:=(vC _ _ _ 1 rfl (by decide)).only (hO2.trans H2) (by simp [Value.ownBlock];omega)
 have R3:=(vC _ _ _ 1 rfl (by decide)).only (hO3.trans H3) (by simp [Value.ownBlock];omega)
 have R4:=(vC _ _ _ 4 rfl (by decide)).only (hO4.trans H4) (by simp [Value.ownBlock];omega)
 have R5:=(vC _ _ _ 1 rfl (by decide)).only (hO5.trans H5) (by simp [Value.ownBlock];omega)
 have R6:=(vC _ _ _ 1 rfl (by decide)).only (hO6.trans H6) (by simp [Value.ownBlock];omega)
 have HR:=aEb (And.intro R1 (And.intro R2 (And.intro R3 (And.intro R4 (And.intro R5 (And.intro R6 hbl))))))
 have HZ:Hid (w.heap.size<=w1.heap.size/\w.heap.size<=w2.heap.size/\w.heap.size<=w3.heap.size/\w.heap.size<=w4.heap.size/\w.heap.size<=w5.heap.size):=aEb ⟨by omega,by omega,by omega,by omega,by omega⟩
 clear R1 R2 R3 R4 R5 R6 hbl hM1 hM2 hM3 hM4 hM5 hM6 hO1 hO2 hO3 hO4 hO5 hO6 H1 H2 H3 H4 H5 H6 hM0 z1 z2 z3 z4 z5 z6
 obtain rfl | rfl | rfl | rfl | rfl | rfl:k=1\/k=2\/k=3\/k=4\/k=5\/k=6:=by omega
 ·have hv':v=_:=hv.out.trans (by simp [Df];rfl)
  clear hv
  subst hv'
  go_wp2
  go_ret
  exact ⟨_,_,rfl,HR.out.1,HR.out.2.2.2.2.2.2,fun k e=>by simp [Value.ownBlock] at e;have:=HZ.out;omega⟩
 ·have hv':v=_:=hv.out.trans (by simp [Df];rfl)
  clear hv
  subst hv'
  go_wp2
  go_ret
  exact ⟨_,_,rfl,HR.out.2.1,HR.out.2.2.2.2.2.2,fun k e=>by simp [Value.ownBlock] at e;have:=HZ.out;omega⟩
 ·have hv':v=_:=hv.out.trans (by simp [Df];rfl)
  clear hv
  subst hv'
  go_wp2
  go_ret
  exact ⟨_,_,rfl,HR.out.2.2.1,HR.out.2.2.2.2.2.2,fun k e=>by simp [Value.ownBlock] at e;have:=HZ.out;omega⟩
 ·have hv':v=_:=hv.out.trans (by simp [Df];rfl)
  clear hv
  subst hv'
  go_wp2
  go_ret
  exact ⟨_,_,rfl,HR.out.2.2.2.1,HR.out.2.2.2.2.2.2,fun k e=>by simp [Value.ownBlock] at e;have:=HZ.out;omega⟩
 ·have hv':v=_:=hv.out.trans (by simp [Df];rfl)
  clear hv
  subst hv'
  go_wp2
  go_ret
  exact ⟨_,_,rfl,HR.out.2.2.2.2.1,HR.out.2.2.2.2.2.2,fun k e=>by simp [Value.ownBlock] at e;have:=HZ.out;omega⟩
 ·have hv':v=_:=hv.out.trans (by simp [Df];rfl)
  clear hv
  subst hv'
  go_wp2
  go_ret
  exact ⟨_,_,rfl,HR.out.2.2.2.2.2.1,HR.out.2.2.2.2.2.2,fun k e=>by simp [Value.ownBlock] at e;have:=HZ.out;omega⟩
def QF (w:World):Prop:=Lib.TabIs prog w "internal/strconv.uint64pow10" .u64 Lib.pow10Tab
theorem LN {P:Program} {cs:Array Value} (h:w.var? P name=some cs) (hb:Below w.heap.size w w'):w'.var? P name=some cs:=by
 unfold World.var? at *
 cases hg:P.globalNamed name with
 | none=>rw [hg] at h;simp at h
 | some g=>
  rw [hg] at h
  simp only [Option.bind_some] at h ⊢
  have hlt:g<w.heap.size:=by
   rcases aDd g w.heap.size with h' | h'
   ·exact h'
   ·simp [Array.getElem?_eq_none h'] at h
  rw [hb.block g hlt];exact h
theorem QF.below (h:QF w) (hb:Below w.heap.size w w'):QF w':=LN h hb
theorem Na {n:Int} (h0:0<=n) (h1:n<=1099511627776):Lib.itoa n=lW n:=by
 unfold Lib.itoa lW
 rw [aEd (by omega),aEc ⟨h0,by unfold KK;omega⟩]
theorem QP {n:Int} (h:¬ (0<=n/\n<=1099511627776)):lW n=[]:=by
 unfold lW
 rw [aEd (by unfold KK;omega)]
set_option maxHeartbeats 400000 in
theorem iX (n:Int) (w:World) (h0:-9223372036854775808<=n) (h1:n<=9223372036854775807) (hp:QF w):Calls prog 196 #[.int .i64 n] w fun e w'=>e=.returned (.string ⟨(lW n).toArray⟩)/\Below w.heap.size w w':=by
 by_cases hq:0<=n/\n<=1099511627776
 ·rw [<- Na hq.1 hq.2]
  have hs:iH n=n:=by unfold iH;rw [aEd (by omega),aEd (by omega)]
  have HP:=aEb hp
  clear hp hq
  go_enter func196, ntmps196
  go_wp2_with fail
  refine (gL _ _ (by omega) (by omega)).mono ?_
  rintro e w' ⟨rfl,rfl⟩
  go_wp2_with fail
  refine (strconv_FormatInt_10 n h0 h1 _ HP.out).mono ?_
  rintro e w' ⟨rfl,k,os,rfl⟩
  have hb:=Lib.below_grow w.heap.size w (aDl _) k os
  generalize Sort.grow (w.drewN k) os=w2 at *
  go_wp2
  go_ret
  exact ⟨rfl,hb⟩
 ·rw [QP hq]
  have hs:(n != iH n)=true:=by unfold iH;rw [bne_iff_ne];split <;> (try split) <;> omega
  clear hq hp
  go_enter func196, ntmps196
  go_wp2_with fail
  refine (gL _ _ (by omega) (by omega)).mono ?_
  rintro e w' ⟨rfl,rfl⟩
  go_wp2
  go_ret
  exact ⟨rfl,aDt _ _⟩
def wP:Value:=.agg #[.string ⟨#[84,105,66]⟩,.string ⟨#[71,105,66]⟩,.string ⟨#[77,105,66]⟩,.string ⟨#[75,105,66]⟩]
def sV:List (List UInt8 × Int):=[([84,105,66],1099511627776),([71,105,66],1073741824),([77,105,66],1048576),([75,105,66],1024)]
def fN (n:Int):List UInt8:=if 0<n/\n<=1099511627776 then match sV.find? (fun p=>n % p.2 == 0) with | some p=>lW (n.tdiv p.2)++p.1 | none=>lW n else lW n
theorem kG (hu:lA w) (hc:w.cell? ⟨3,0,none⟩=some (.map (some bm))) (u) (b:Int) (hn:u.data.toList≠[]) (hs:u.size<=maxLen) (hb:wR u.data.toList=b):(Instr.lookup 331 (.map (some bm)) (.string u) false).run prog w=.ok (.int .i64 b) w:=by
 obtain ⟨bm',h1,h2⟩:=hu.look u hn hs
 rw [hc] at h1
 obtain rfl:=aCp (Value.map.inj (aCp h1))
 rw [<- hb];exact h2
set_option maxRecDepth 100000 in
set_option maxHeartbeats 1000000 in
theorem Fo (n:Int) (w:World) (h0:-9223372036854775808<=n) (h1:n<=0) (hp:QF w) (hu:lA w):Calls prog 232 #[.int .i64 n] w fun e w'=>e=.returned (.string ⟨(lW n).toArray⟩)/\Below w.heap.size w w':=by
 obtain ⟨bm,hc,hx⟩:=hu.look ⟨#[84,105,66]⟩ (by decide) (by decide)
 clear hx
 have l0:=kG hu hc ⟨#[84,105,66]⟩ 1099511627776 (by decide) (by decide) (by decide)
 have l1:=kG hu hc ⟨#[71,105,66]⟩ 1073741824 (by decide) (by decide) (by decide)
 have l2:=kG hu hc ⟨#[77,105,66]⟩ 1048576 (by decide) (by decide) (by decide)
 have l3:=kG hu hc ⟨#[75,105,66]⟩ 1024 (by decide) (by decide) (by decide)
 have x0:∀ w:World,(Instr.index 332 wP (.int .i64 0)).run prog w=.ok (.string ⟨#[84,105,66]⟩) w:=fun _=>by kernel_rfl
 have x1:∀ w:World,(Instr.index 332 wP (.int .i64 1)).run prog w=.ok (.string ⟨#[71,105,66]⟩) w:=fun _=>by kernel_rfl
 have x2:∀ w:World,(Instr.index 332 wP (.int .i64 2)).run prog w=.ok (.string ⟨#[77,105,66]⟩) w:=fun _=>by kernel_rfl
 have x3:∀ w:World,(Instr.index 332 wP (.int .i64 3)).run prog w=.ok (.string ⟨#[75,105,66]⟩) w:=fun _=>by kernel_rfl
 unfold wP at x0 x1 x2 x3
 have HP:=aEb hp
 clear hp
 go_enter func232, ntmps232
 go_wp2
 go_loop [7] (fun i => ∃ k : Nat, k <= 4 /\ i = .int .i64 k) (fun i => 4 - (intOf i).toNat)
 case atStart=>exact ⟨0,by omega,rfl⟩
 case round=>
  obtain ⟨k,hk,rfl⟩:=hrel
  by_cases h4:k=4
  ·subst h4
   go_wp2_with fail
   refine (iX n _ (by omega) (by omega) HP.out).mono ?_
   rintro e w' ⟨rfl,hb⟩
   go_wp2
   go_ret
   exact ⟨rfl,hb⟩
  rcases (show k=0\/k=1\/k=2\/k=3 from by omega) with rfl | rfl | rfl | rfl
  all_goals
   go_wp2_with fail
   go_round
   case rel=>exact ⟨_,(by decide:_+1<=4),rfl⟩
   case measure=>simp [intOf]
set_option maxRecDepth 100000 in
set_option maxHeartbeats 1000000 in
theorem CX (n:Int) (w:World) (h0:1099511627776<n) (h1:n<=9223372036854775807) (hp:QF w) (hu:lA w):Calls prog 232 #[.int .i64 n] w fun e w'=>e=.returned (.string ⟨(lW n).toArray⟩)/\Below w.heap.size w w':=by
 obtain ⟨bm,hc,hx⟩:=hu.look ⟨#[84,105,66]⟩ (by decide) (by decide)
 clear hx
 have l0:=kG hu hc ⟨#[84,105,66]⟩ 1099511627776 (by decide) (by decide) (by decide)
 have l1:=kG hu hc ⟨#[71,105,66]⟩ 1073741824 (by decide) (by decide) (by decide)
 have l2:=kG hu hc ⟨#[77,105,66]⟩ 1048576 (by decide) (by decide) (by decide)
 have l3:=kG hu hc ⟨#[75,105,66]⟩ 1024 (by decide) (by decide) (by decide)
 have x0:∀ w:World,(Instr.index 332 wP (.int .i64 0)).run prog w=.ok (.string ⟨#[84,105,66]⟩) w:=fun _=>by kernel_rfl
 have x1:∀ w:World,(Instr.index 332 wP (.int .i64 1)).run prog w=.ok (.string ⟨#[71,105,66]⟩) w:=fun _=>by kernel_rfl
 have x2:∀ w:World,(Instr.index 332 wP (.int .i64 2)).run prog w=.ok (.string ⟨#[77,105,66]⟩) w:=fun _=>by kernel_rfl
 have x3:∀ w:World,(Instr.index 332 wP (.int .i64 3)).run prog w=.ok (.string ⟨#[75,105,66]⟩) w:=fun _=>by kernel_rfl
 unfold wP at x0 x1 x2 x3
 have HP:=aEb hp
 clear hp
 have hs:(n == iH n)=false:=by unfold iH;rw [beq_eq_false_iff_ne];split <;> (try split) <;> omega
 go_enter func232, ntmps232
 go_wp2
 go_loop [7] (fun i => ∃ k : Nat, k <= 4 /\ i = .int .i64 k) (fun i => 4 - (intOf i).toNat)
 case atStart=>exact ⟨0,by omega,rfl⟩
 case round=>
  obtain ⟨k,hk,rfl⟩:=hrel
  by_cases h4:k=4
  ·subst h4
   go_wp2_with fail
   refine (iX n _ (by omega) (by omega) HP.out).mono ?_
   rintro e w' ⟨rfl,hb⟩
   go_wp2
   go_ret
   exact ⟨rfl,hb⟩
  rcases (show k=0\/k=1\/k=2\/k=3 from by omega) with rfl | rfl | rfl | rfl
  all_goals
   go_wp2_with fail
   refine (gL _ _ (by omega) (by omega)).mono ?_
   rintro e w' ⟨rfl,rfl⟩
   go_wp2_with fail
   go_round
   case rel=>exact ⟨_,(by decide:_+1<=4),rfl⟩
   case measure=>simp [intOf]
theorem SX {a b:List UInt8} (h:a=b):Ending.returned (.string ⟨a.toArray⟩)=.returned (.string ⟨b.toArray⟩):=by rw [h]
theorem Td (a b:List UInt8):(⟨a.toArray⟩:ByteArray)++⟨b.toArray⟩=⟨(a++b).toArray⟩:=by
 apply ByteArray.ext
 simp
theorem Bb {a b c:List UInt8} (h:a++b=c):Ending.returned (.string (⟨a.toArray⟩++⟨b.toArray⟩))=.returned (.string ⟨c.toArray⟩):=by rw [Td,h]
theorem kZ (n:Int):(lW n).length<=13:=by
 unfold lW
 split
 ·rename_i h
  exact uV 12 n.toNat (by have:=h.2;unfold KK at this;omega)
 ·simp
theorem Eo {n:Int} {q:List UInt8 × Int} (h0:(sV.take k).all (fun p=>!(n % p.2 == 0))=true) (h:sV[k]? = some q) (h2:(n % q.2 == 0)=true) (h1:0<n/\n<=1099511627776):lW (n.tdiv q.2)++q.1=fN n:=by
 have hf:∀ (l:List (List UInt8 × Int)) (k:Nat),(l.take k).all (fun p=>!(n % p.2 == 0))=true->l[k]? = some q->l.find? (fun p=>n % p.2 == 0)=some q:=by
  intro l
  induction l with
  | nil=>intro k _ h;simp at h
  | cons x r ih=>
   intro k h0 h
   cases k with
   | zero=>
    simp only [List.getElem?_cons_zero,aBv] at h
    subst h
    rw [List.find?_cons,h2]
   | succ k=>
    simp only [List.take_succ_cons,aC1,aB0,aBt] at h0
    simp only [List.getElem?_cons_succ] at h
    rw [List.find?_cons,h0.1]
    exact ih k h0.2 h
 unfold fN
 rw [aEc h1,hf sV k h0 h]
theorem UR {n:Int} (h0:(sV.take 4).all (fun p=>!(n % p.2 == 0))=true):lW n=fN n:=by
 have:sV.find? (fun p=>n % p.2 == 0)=none:=by
  rw [List.find?_eq_none]
  intro p hp
  have:=aB1.1 h0 p hp
  simpa using this
 unfold fN
 rw [this];simp
theorem Ep {n:Int} {q:List UInt8 × Int} (h0:(sV.take k).all (fun p=>!(n % p.2 == 0))=true) (h:sV[k]? = some q) (h2:(n % q.2 == 0)=false):(sV.take (k+1)).all (fun p=>!(n % p.2 == 0))=true:=by
 rw [List.take_add_one,aCs,h0,h]
 simp only [Option.toList_some,aC1,List.all_nil,Bool.and_true,h2,Bool.not_false]
set_option maxRecDepth 100000 in
set_option maxHeartbeats 1000000 in
theorem EV (n:Int) (w:World) (h0:0<n) (h1:n<=1099511627776) (hp:QF w) (hu:lA w):Calls prog 232 #[.int .i64 n] w fun e w'=>e=.returned (.string ⟨(fN n).toArray⟩)/\Below w.heap.size w w':=by
 obtain ⟨bm,hc,hx⟩:=hu.look ⟨#[84,105,66]⟩ (by decide) (by decide)
 clear hx
 have l0:=kG hu hc ⟨#[84,105,66]⟩ 1099511627776 (by decide) (by decide) (by decide)
 have l1:=kG hu hc ⟨#[71,105,66]⟩ 1073741824 (by decide) (by decide) (by decide)
 have l2:=kG hu hc ⟨#[77,105,66]⟩ 1048576 (by decide) (by decide) (by decide)
 have l3:=kG hu hc ⟨#[75,105,66]⟩ 1024 (by decide) (by decide) (by decide)
 have x0:∀ w:World,(Instr.index 332 wP (.int .i64 0)).run prog w=.ok (.string ⟨#[84,105,66]⟩) w:=fun _=>by kernel_rfl
 have x1:∀ w:World,(Instr.index 332 wP (.int .i64 1)).run prog w=.ok (.string ⟨#[71,105,66]⟩) w:=fun _=>by kernel_rfl
 have x2:∀ w:World,(Instr.index 332 wP (.int .i64 2)).run prog w=.ok (.string ⟨#[77,105,66]⟩) w:=fun _=>by kernel_rfl
 have x3:∀ w:World,(Instr.index 332 wP (.int .i64 3)).run prog w=.ok (.string ⟨#[75,105,66]⟩) w:=fun _=>by kernel_rfl
 unfold wP at x0 x1 x2 x3
 have HP:=aEb hp
 clear hp
 have hs:(n == iH n)=true:=by unfold iH;rw [aEd (by omega),aEd (by omega)];simp
 go_enter func232, ntmps232
 go_wp2
 go_loop [7] (fun i => ∃ k : Nat, k <= 4 /\ i = .int .i64 k /\ (sV.take k).all (fun p => !(n % p.2 == 0)) = true) (fun i => 4 - (intOf i).toNat)
 case atStart=>exact ⟨0,by omega,rfl,rfl⟩
 case round=>
  obtain ⟨k,hk,rfl,hall⟩:=hrel
  have HA:=aEb hall
  clear hall
  by_cases h4:k=4
  ·subst h4
   go_wp2_with fail
   refine (iX n _ (by omega) (by omega) HP.out).mono ?_
   rintro e w' ⟨rfl,hb⟩
   go_wp2
   go_ret
   exact ⟨SX (UR HA.out),hb⟩
  rcases (show k=0\/k=1\/k=2\/k=3 from by omega) with rfl | rfl | rfl | rfl
  ·have hd:0<=n.tdiv 1099511627776/\n.tdiv 1099511627776<=1099511627776:=by rw [aAu (by omega)];omega
   have ht:0<=n % 1099511627776/\n % 1099511627776<=1099511627776:=by omega
   obtain ⟨d1,d2⟩:=hd
   obtain ⟨t1,t2⟩:=ht
   cases hm:n % 1099511627776 == 0 with
   | false=>
    go_wp2_with fail
    refine (gL _ _ (by omega) (by omega)).mono ?_
    rintro e w' ⟨rfl,rfl⟩
    go_wp2_with fail
    go_round
    case rel=>exact ⟨_,(by decide:_+1<=4),rfl,Ep HA.out rfl hm⟩
    case measure=>simp [intOf]
   | true=>
    go_wp2_with fail
    refine (gL _ _ (by omega) (by omega)).mono ?_
    rintro e w' ⟨rfl,rfl⟩
    go_wp2_with fail
    refine (iX (n.tdiv 1099511627776) _ (by omega) (by omega) HP.out).mono ?_
    rintro e w' ⟨rfl,hb⟩
    have hlen:=kZ (n.tdiv 1099511627776)
    go_wp2_with fail
    go_ret
    exact ⟨Bb (Eo HA.out rfl hm ⟨h0,h1⟩),hb⟩
  ·have hd:0<=n.tdiv 1073741824/\n.tdiv 1073741824<=1099511627776:=by rw [aAu (by omega)];omega
   have ht:0<=n % 1073741824/\n % 1073741824<=1099511627776:=by omega
   obtain ⟨d1,d2⟩:=hd
   obtain ⟨t1,t2⟩:=ht
   cases hm:n % 1073741824 == 0 with
   | false=>
    go_wp2_with fail
    refine (gL _ _ (by omega) (by omega)).mono ?_
    rintro e w' ⟨rfl,rfl⟩
    go_wp2_with fail
    go_round
    case rel=>exact ⟨_,(by decide:_+1<=4),rfl,Ep HA.out rfl hm⟩
    case measure=>simp [intOf]
   | true=>
    go_wp2_with fail
    refine (gL _ _ (by omega) (by omega)).mono ?_
    rintro e w' ⟨rfl,rfl⟩
    go_wp2_with fail
    refine (iX (n.tdiv 1073741824) _ (by omega) (by omega) HP.out).mono ?_
    rintro e w' ⟨rfl,hb⟩
    have hlen:=kZ (n.tdiv 1073741824)
    go_wp2_with fail
    go_ret
    exact ⟨Bb (Eo HA.out rfl hm ⟨h0,h1⟩),hb⟩
  ·have hd:0<=n.tdiv 1048576/\n.tdiv 1048576<=1099511627776:=by rw [aAu (by omega)];omega
   have ht:0<=n % 1048576/\n % 1048576<=1099511627776:=by omega
   obtain ⟨d1,d2⟩:=hd
   obtain ⟨t1,t2⟩:=ht
   cases hm:n % 1048576 == 0 with
   | false=>
    go_wp2_with fail
    refine (gL _ _ (by omega) (by omega)).mono ?_
    rintro e w' ⟨rfl,rfl⟩
    go_wp2_with fail
    go_round
    case rel=>exact ⟨_,(by decide:_+1<=4),rfl,Ep HA.out rfl hm⟩
    case measure=>simp [intOf]
   | true=>
    go_wp2_with fail
    refine (gL _ _ (by omega) (by omega)).mono ?_
    rintro e w' ⟨rfl,rfl⟩
    go_wp2_with fail
    refine (iX (n.tdiv 1048576) _ (by omega) (by omega) HP.out).mono ?_
    rintro e w' ⟨rfl,hb⟩
    have hlen:=kZ (n.tdiv 1048576)
    go_wp2_with fail
    go_ret
    exact ⟨Bb (Eo HA.out rfl hm ⟨h0,h1⟩),hb⟩
  ·have hd:0<=n.tdiv 1024/\n.tdiv 1024<=1099511627776:=by rw [aAu (by omega)];omega
   have ht:0<=n % 1024/\n % 1024<=1099511627776:=by omega
   obtain ⟨d1,d2⟩:=hd
   obtain ⟨t1,t2⟩:=ht
   cases hm:n % 1024 == 0 with
   | false=>
    go_wp2_with fail
    refine (gL _ _ (by omega) (by omega)).mono ?_
    rintro e w' ⟨rfl,rfl⟩
    go_wp2_with fail
    go_round
    case rel=>exact ⟨_,(by decide:_+1<=4),rfl,Ep HA.out rfl hm⟩
    case measure=>simp [intOf]
   | true=>
    go_wp2_with fail
    refine (gL _ _ (by omega) (by omega)).mono ?_
    rintro e w' ⟨rfl,rfl⟩
    go_wp2_with fail
    refine (iX (n.tdiv 1024) _ (by omega) (by omega) HP.out).mono ?_
    rintro e w' ⟨rfl,hb⟩
    have hlen:=kZ (n.tdiv 1024)
    go_wp2_with fail
    go_ret
    exact ⟨Bb (Eo HA.out rfl hm ⟨h0,h1⟩),hb⟩
theorem yH (n:Int) (w) (h0:-9223372036854775808<=n) (h1:n<=9223372036854775807) (hp:QF w) (hu:lA w):Calls prog 232 #[.int .i64 n] w fun e w'=>e=.returned (.string ⟨(fN n).toArray⟩)/\Below w.heap.size w w':=by
 by_cases a:n<=0
 ·have:=Fo n w h0 a hp hu
  rwa [show lW n=fN n from by unfold fN;rw [aEd (by omega)]] at this
 by_cases b:n<=1099511627776
 ·exact EV n w (by omega) b hp hu
 ·have:=CX n w (by omega) h1 hp hu
  rwa [show lW n=fN n from by unfold fN;rw [aEd (by omega)]] at this
section
open Go.Proofs.Tryz
open Go.RowKit Go.Maps
structure dN where
 kind:Nat
 name:ByteArray
 pool:ByteArray
 size:Int
 opn:Bool
def dN.cells (d:dN):Array Value:=#[.int .u8 (d.kind:Int),.string d.name,.string d.pool,zi d.size,.bool d.opn]
def uQ:ByteArray:=⟨#[35,66,66]⟩
def Rl (n:Int):ByteArray:=⟨(fN n).toArray⟩
def gN (s:ByteArray):Value:=.agg #[.string s]
def qQ (W:Nat->ByteArray) (w:World):Prop:=∀ i,i<7->w.cell? ⟨0,i,none⟩=some (.string (W i))
theorem qQ.below {W:Nat->ByteArray} (h:qQ W w) (k:Below w.heap.size w w'):qQ W w':=fun i hi=>aDy k (h i hi)
def nI (W:Nat->ByteArray) (d:dN) (w:World):World:=(w.alloc (.cells d.cells 220)).alloc (.cells #[.string uQ,.string (W d.kind)] 9)
def frT (W:Nat->ByteArray) (H:Nat) (d:dN) (g:Nat->Value):Act:=⟨#[.agg d.cells,kU H 0,.string ⟨#[]⟩,.slice (some ⟨H+1,0,none⟩) 2 2,g 22,undef,undef,kU H 0,.int .u8 (d.kind:Int),kU 0 d.kind,.string (W d.kind),.slice (some ⟨H+1,0,none⟩) 2 2,
 g 0,g 1,g 2,g 3,g 4,g 6,g 7,g 8,g 9,g 11,g 12,g 13,g 15,g 16,g 17,g 19,g 21,undef,undef,undef,undef,undef,undef,undef,undef,undef,undef,undef,undef,undef,undef,undef,undef,undef,undef,undef,undef,undef,undef,undef,undef,undef,undef,undef],[]⟩
def kK (W:Nat->ByteArray) (H:Nat) (d:dN):FU where
 fr:=frT W H d
 V i v _:=match i with
  | 1 | 6=>v=kU H 3
  | 2 | 7=>v=.int .i64 d.size
  | 3 | 8=>v=.string (Rl d.size)
  | 4 | 9=>v=gN (Rl d.size)
  | 11=>v=kU H 1
  | 12=>v=.string d.name
  | 13=>v=gN d.name
  | 15=>v=kU H 2
  | 16=>v=.string d.pool
  | 17=>v=gN d.pool
  | 19=>v=gN Lw
  | _=>True
 ins:=[(5,nG,4),(10,nA,9),(14,nH,13),(18,nL,17),(20,jW,19)]
 M:=21
theorem iL (W:Nat->ByteArray) (H) (d):zP (kK W H d) where
 stable i v w w' h _:=h
 ix:=by simp [kK,nG,nA,nH,nL,jW]
 apart:=by simp [kK,nG,nA,nH,nL,jW]
 len:=by simp [kK]
 m0:=by simp [kK]
theorem oV (W:Nat->ByteArray) (d) (w):(nI W d w).heap.size=w.heap.size+2:=by simp [nI]
theorem qB (W:Nat->ByteArray) (d) (w) (j:Nat) (v) (h:d.cells[j]? = some v):(nI W d w).cell? ⟨w.heap.size,j,none⟩=some v:=xK ((kE w _ _ _ rfl).trans h)
theorem Ix (W:Nat->ByteArray) (d) (w):(nI W d w).heap[w.heap.size+1]? = some (.cells #[.string uQ,.string (W d.kind)] 9 (0,0)):=by
 have h:=oG (w.alloc (.cells d.cells 220)) (.cells #[.string uQ,.string (W d.kind)] 9)
 rw [aB6] at h
 exact h
theorem xH (o) (ρ:Operand->Value) (x) (w) (b j) (hj:j=1\/j=2\/j=3) (ho:o.op=.fieldAddr 220 x j) (hx:ρ x=kU b 0):(execOp ρ o).run prog w=.ok (.value (kU b j)) w:=by
 unfold execOp
 rw [ho]
 unfold kU at *
 rcases hj with rfl | rfl | rfl <;> go_simp
theorem DZ (o) (ρ:Operand->Value) (x) (w) (a) (n:Int) (ho:o.op=.load 2 x) (hx:ρ x=.pointer (some a)) (h:w.cell? a=some (zi n)):(execOp ρ o).run prog w=.ok (.value (zi n)) w:=by
 unfold execOp
 rw [ho]
 go_simp
theorem Dq (o) (ρ:Operand->Value) (x) (w) (a) (s) (ho:o.op=.load 9 x) (hx:ρ x=.pointer (some a)) (h:w.cell? a=some (.string s)):(execOp ρ o).run prog w=.ok (.value (.string s)) w:=by
 unfold execOp
 rw [ho]
 go_simp
theorem Dk (o) (ρ:Operand->Value) (y) (w) (n:Int) (ho:o.op=.call { callee:=.value (.func 232),args:=#[y],argTypes:=#[2] }) (hy:ρ y=zi n) (hf:ρ (.func 232)=.func (.func 232) #[] #[]:=by rfl):(execOp ρ o).run prog w=.ok (.enter 232 #[zi n]) w:=by
 unfold execOp
 rw [ho]
 go_simp
theorem sW (o) (ρ:Operand->Value) (y) (w) (s) (ho:o.op=.build 318 #[(0,y)]) (hy:ρ y=.string s):(execOp ρ o).run prog w=.ok (.value (gN s)) w:=by
 unfold gN
 unfold execOp
 rw [ho]
 go_simp
def ValsT (d:dN) (b:Nat) (wx:World):Prop:=
 ∃ n m f,dR 9 b n m f wx/\f (.string nG)=some (gN (Rl d.size))/\f (.string nA)=some (gN (Rl d.size))/\f (.string nH)=some (gN d.name)/\f (.string nL)=some (gN d.pool)/\f (.string jW)=some (gN Lw)
def VE (W:Nat->ByteArray) (d:dN) (w:World) (v:Value) (wx:World):Prop:=∃ b,v=.map (some b)/\(nI W d w).heap.size<=b/\Below (nI W d w).heap.size (nI W d w) wx/\ValsT d b wx
theorem PG {W:Nat->ByteArray} {d:dN} {g:Nat->Value} {L:Nat->Bool} (hL:∀ i,i<23->L i=true) (h:nQ (kK W w.heap.size d) (nI W d w) g L wx):VE W d w (g 22) wx:=by
 obtain ⟨b,n,m,f,e1,e2,e3,e4,e5,e6⟩:=h.map (hL 0 (by decide))
 have h22:=(h.last (hL 22 (by decide))).2
 have v4:g 4=gN (Rl d.size):=h.val 4 (hL 4 (by decide))
 have v9:g 9=gN (Rl d.size):=h.val 9 (hL 9 (by decide))
 have v13:g 13=gN d.name:=h.val 13 (hL 13 (by decide))
 have v17:g 17=gN d.pool:=h.val 17 (hL 17 (by decide))
 have v19:g 19=gN Lw:=h.val 19 (hL 19 (by decide))
 have i1:=e5 (5,nG,4) (by simp [kK]) (hL 5 (by decide))
 have i2:=e5 (10,nA,9) (by simp [kK]) (hL 10 (by decide))
 have i3:=e5 (14,nH,13) (by simp [kK]) (hL 14 (by decide))
 have i4:=e5 (18,nL,17) (by simp [kK]) (hL 18 (by decide))
 have i5:=e5 (20,jW,19) (by simp [kK]) (hL 20 (by decide))
 exact ⟨b,h22.trans e1,e2,h.below,n,m,f,e4,i1.trans (by rw [v4]),i2.trans (by rw [v9]),i3.trans (by rw [v13]),i4.trans (by rw [v17]),i5.trans (by rw [v19])⟩
def eqB:ByteArray:=⟨#[61]⟩
def Gy (d:dN) (key:List UInt8):ByteArray:=if key=nG\/key=nA then Rl d.size else if key=nH then d.name else if key=nL then d.pool else Lw
def sH (d:dN) (key:ByteArray):List ByteArray:=if key.data.toList=jW/\d.opn=false then [] else [key++eqB++Gy d key.data.toList]
def gM (W:Nat->ByteArray) (d:dN) (k:Nat):List ByteArray:=[uQ,W d.kind]++((cC d.kind).take k).flatMap (sH d)
def oL (W:Nat->ByteArray) (d:dN):List UInt8:=Lib.join ((gM W d (cC d.kind).length).map (·.data.toList)) [32]
theorem Hn (h:key∈cC k):key.data.toList=nG\/key.data.toList=nA\/key.data.toList=nH\/key.data.toList=nL\/key.data.toList=jW:=by
 unfold cC at h
 split at h <;> simp at h
 ·rcases h with rfl | rfl
  ·exact .inl rfl
  ·exact .inr (.inr (.inr (.inl rfl)))
 ·subst h;exact .inr (.inl rfl)
 ·subst h;exact .inr (.inl rfl)
 ·rcases h with rfl | rfl | rfl | rfl
  ·exact .inr (.inr (.inl rfl))
  ·exact .inl rfl
  ·exact .inr (.inr (.inr (.inl rfl)))
  ·exact .inr (.inr (.inr (.inr rfl)))
 ·subst h;exact .inr (.inr (.inl rfl))
 ·subst h;exact .inr (.inr (.inl rfl))
theorem UN {d:dN} {f:Lit->Option Value} (h1:f (.string nG)=some (gN (Rl d.size))) (h2:f (.string nA)=some (gN (Rl d.size))) (h3:f (.string nH)=some (gN d.name)) (h4:f (.string nL)=some (gN d.pool)) (h5:f (.string jW)=some (gN Lw))
  (h:key=nG\/key=nA\/key=nH\/key=nL\/key=jW):f (.string key)=some (gN (Gy d key)):=by
 rcases h with rfl | rfl | rfl | rfl | rfl
 ·rw [h1];rfl
 ·rw [h2];rfl
 ·rw [h3];rfl
 ·rw [h4];rfl
 ·rw [h5];rfl
theorem Wu: (prog.info? 9).map (fun i=>(i.zero,i.size,i.bytes))=some (some (.string ⟨#[]⟩),1,16):=by kernel_rfl
theorem KH (w):(zeroValue 318).run prog w=.ok (gN ⟨#[]⟩) w:=by kernel_rfl
def Kg (H:Nat) (L:List ByteArray) (wN:World) (v:Value) (wr:World):Prop:=
 wr.ownsRow (H+1) 9 1 v L.length (sv L)/\aS (H+1) wN wr/\(∀ g,v.ownBlock=some g->g=H+1\/wN.heap.size<=g)
theorem AE {Q:Exit->Act->World->Prop} (hgd:o.guard=none) (s x)
  (ho:o.op=.call { callee:=.builtin .append,args:=#[s,x],argTypes:=#[95,95] }) (H) (L:List ByteArray) (wN wr) (v) (hs:a.eval s=v) (hpt:Kg H L wN v wr)
  (y) (hx:a.eval x=.slice (some ⟨wr.heap.size,0,none⟩) 1 1) (hb:L.length+1<=100000000) (hH:H+1<wr.heap.size)
  (h:∀ v' w',Kg H (L++[y]) wN v' w'->wpList prog ops Q rest (a.put o.dst v') w'):wpList prog ops Q (o::rest) a (wr.alloc (.cells #[.string y] 9)):=by
 obtain ⟨i0,hi,hz0,hz1,hz2⟩:=info_parts Wu
 obtain ⟨p1,p2,p3⟩:=hpt
 have hlen:(sv L).length=L.length:=by simp [sv]
 refine wpList_append_lies _ hgd s x 95 ho (H+1) 9 i0 (.string ⟨#[]⟩) 1 16 underlying95 hi hz0 hz1 hz2 rfl (by decide) v L.length (sv L) hs (p1.alloc _) ⟨wr.heap.size,0,none⟩ 1 1 [.string y] hx rfl ?_ (by simp [Value.oneCell']) (by decide) (by unfold maxLen;omega) (by omega) (by simp;omega) _ rfl
  fun g cap w' h1 h2 h3 h4=>h _ w' ⟨?_,?_,?_⟩
 ·intro j u hu
  match j with
  | 0=>
   cases hu
   exact kE _ _ _ _ rfl
  | j+1=>simp at hu
 ·have e1:sv (L++[y])=sv L++[.string y]:=by simp [sv]
  rw [e1,aBh];exact h1
 ·have hg1:aS (H+1) wN (wr.alloc (.cells #[.string y] 9)):=p2.alloc _
  refine ⟨h2.os.trans hg1.os,h2.tape.trans hg1.tape,h2.output.trans hg1.output,aC7 hg1.size h2.size,fun i hi hn=>?_⟩
  refine (h2.block i (aBi hi hg1.size) fun e=>?_).trans (hg1.block i hi hn)
  rcases p3 i e.symm with e2 | e2
  ·exact hn (by rw [e2])
  ·omega
 ·intro k e
  have e2:g=k:=by simpa [Value.ownBlock] using e
  subst e2
  rcases h3 with e3 | e3
  ·exact p3 g e3
  ·right
   have:=p2.size
   simp at e3;omega
theorem BF {s:ByteArray} {l:List UInt8} (h:s.data.toList=l):s=⟨l.toArray⟩:=by
 apply ByteArray.ext
 rw [<- h]
theorem Aq (W:Nat->ByteArray) (d) (k):(gM W d k).length<=k+2:=by
 unfold gM
 rw [aBh,List.length_flatMap]
 have:∀ l:List ByteArray,(l.map fun a=>(sH d a).length).sum<=l.length:=by
  intro l
  induction l with
  | nil=>simp
  | cons x r ih=>
   have:(sH d x).length<=1:=by unfold sH;split <;> simp
   simp;omega
 have h:=this ((cC d.kind).take k)
 rw [aB7] at h
 simp only [aB3,aCk]
 omega
theorem Ea (W:Nat->ByteArray) (d) (k):2<=(gM W d k).length:=by unfold gM;simp
theorem qT (k):(cC k).length<=4:=by unfold cC;split <;> simp
theorem Sq (n:Int):(Rl n).size<=16:=by
 have h:(fN n).length<=16:=by
  unfold fN
  split
  ·split
   ·rename_i p hp
    have h1:=kZ (n.tdiv p.2)
    have h2:p.1.length<=3:=by
     have:=List.mem_of_find?_eq_some hp
     simp [sV] at this
     rcases this with rfl | rfl | rfl | rfl <;> decide
    simp;omega
   ·have:=kZ n;omega
  ·have:=kZ n;omega
 simpa [Rl,ByteArray.size] using h
theorem Ho (d) (h1:d.name.size<=1000) (h2:d.pool.size<=1000) (key):(Gy d key).size<=1000:=by
 have h3:=Sq d.size
 unfold Gy
 split
 ·omega
 split
 ·exact h1
 split
 ·exact h2
 ·decide
theorem JB (W:Nat->ByteArray) (d) (h:(cC d.kind).take (k+1)=(cC d.kind).take k++[key]):gM W d (k+1)=gM W d k++sH d key:=by
 unfold gM
 rw [h,aBb,aBs];simp
set_option maxRecDepth 100000 in
set_option maxHeartbeats 3200000 in
theorem Ke (W:Nat->ByteArray) (d:dN) (w:World) (hk:1<=d.kind/\d.kind<=6) (hw:qQ W w) (hd0:-9223372036854775808<=d.size) (hd1:d.size<=9223372036854775807) (hp:QF w) (hu:lA w) (hnm:d.name.size<=1000) (hpo:d.pool.size<=1000) (hjl:(oL W d).length<=140737488355328):
  Calls prog 197 #[.agg d.cells] w fun e w'=>e=.returned (.string ⟨(oL W d).toArray⟩)/\Below w.heap.size w w':=by
 have hb0:Below w.heap.size w (nI W d w):=((aDt _ _).alloc (aDl _) _).alloc (by simp) _
 have HC:∀ wx:World,Below (nI W d w).heap.size (nI W d w) wx->wx.cell? ⟨w.heap.size,1,none⟩=some (.string d.name)/\wx.cell? ⟨w.heap.size,2,none⟩=some (.string d.pool)/\wx.cell? ⟨w.heap.size,3,none⟩=some (zi d.size):=fun wx h=>
  ⟨aDy h (qB W d w 1 _ rfl),aDy h (qB W d w 2 _ rfl),aDy h (qB W d w 3 _ rfl)⟩
 have hfl:∀ (s:ByteArray) (w:World),(Instr.field 318 (.agg #[.string s]) 0).run prog w=.ok (.string s) w:=fun _ _=>by kernel_rfl
 have hwk:=hw d.kind (by omega)
 have hwk2:(w.alloc (.cells d.cells 220)).cell? ⟨0,d.kind,none⟩=some (.string (W d.kind)):=xK hwk
 have h7:(d.kind:Int)<7:=by omega
 have h0:0<=(d.kind:Int):=by omega
 have HHC:=aEb HC
 clear HC
 go_enter func197, ntmps197
 unfold dN.cells at hwk2 ⊢
 go_upto_region 2 with fail
 clear hwk hwk2
 go_cut [4] from 12 to 28 (fun s4 wx => VE W d w s4 wx)
 case first=>
  rename_i J K' hJ hK
  have HC:=HHC.out
  refine Dz (iL W w.heap.size d) (w0:=nI W d w) (n:=23) (by kernel_rfl) (by kernel_rfl) rfl (by kernel_rfl) ?_ (fun _=>undef) ?_
  ·refine ⟨?_,?_,?_,?_,?_,?_,?_,?_,?_,?_,?_,?_,?_,?_,?_,?_,?_,?_,?_,?_,?_,?_,?_,trivial⟩
   ·exact JU (iL W w.heap.size d) rfl (fun _ _=>trivial) (fun _ _=>rfl)
   ·exact fK (iL W w.heap.size d) (by simp [fX,kK]) (fun _ _=>rfl) (fun g L wx hm hl=>⟨kU w.heap.size 3,xH _ _ _ wx w.heap.size 3 (by omega) rfl rfl,rfl⟩)
   ·exact fK (iL W w.heap.size d) (by simp [fX,kK]) (fun _ _=>rfl) (fun g L wx hm hl=>⟨zi d.size,DZ _ _ _ wx _ d.size rfl (hm.val 1 (hl ⟨1,.data⟩ (by simp) rfl)) (HC _ hm.below).2.2,rfl⟩)
   ·exact Bm (iL W w.heap.size d) (by simp [fX,kK]) (fun _ _=>rfl) (fun g L wx hm hl=>⟨232,_,Dk _ _ _ wx d.size rfl (hm.val 2 (hl ⟨2,.data⟩ (by simp) rfl)),(yH d.size wx hd0 hd1 (hp.below (aDu hb0 hm.below)) (hu.below (aDu hb0 hm.below))).mono fun e w' h=>⟨_,h.1,h.2,rfl⟩⟩)
   ·exact fK (iL W w.heap.size d) (by simp [fX,kK]) (fun _ _=>rfl) (fun g L wx hm hl=>⟨_,sW _ _ _ wx _ rfl (hm.val 3 (hl ⟨3,.data⟩ (by simp) rfl)),rfl⟩)
   ·exact jQ (iL W w.heap.size d) underlying319 (r:=(5,nG,4)) (by simp [kK]) (fun _ _=>trivial) ⟨⟨0,.data⟩,by simp,rfl,rfl⟩ ⟨⟨4,.data⟩,by simp,rfl,rfl⟩ rfl rfl (fun _=>rfl) (fun _=>rfl) (fun _ _=>rfl)
   ·exact fK (iL W w.heap.size d) (by simp [fX,kK]) (fun _ _=>rfl) (fun g L wx hm hl=>⟨kU w.heap.size 3,xH _ _ _ wx w.heap.size 3 (by omega) rfl rfl,rfl⟩)
   ·exact fK (iL W w.heap.size d) (by simp [fX,kK]) (fun _ _=>rfl) (fun g L wx hm hl=>⟨zi d.size,DZ _ _ _ wx _ d.size rfl (hm.val 6 (hl ⟨6,.data⟩ (by simp) rfl)) (HC _ hm.below).2.2,rfl⟩)
   ·exact Bm (iL W w.heap.size d) (by simp [fX,kK]) (fun _ _=>rfl) (fun g L wx hm hl=>⟨232,_,Dk _ _ _ wx d.size rfl (hm.val 7 (hl ⟨7,.data⟩ (by simp) rfl)),(yH d.size wx hd0 hd1 (hp.below (aDu hb0 hm.below)) (hu.below (aDu hb0 hm.below))).mono fun e w' h=>⟨_,h.1,h.2,rfl⟩⟩)
   ·exact fK (iL W w.heap.size d) (by simp [fX,kK]) (fun _ _=>rfl) (fun g L wx hm hl=>⟨_,sW _ _ _ wx _ rfl (hm.val 8 (hl ⟨8,.data⟩ (by simp) rfl)),rfl⟩)
   ·exact jQ (iL W w.heap.size d) underlying319 (r:=(10,nA,9)) (by simp [kK]) (fun _ _=>trivial) ⟨⟨0,.data⟩,by simp,rfl,rfl⟩ ⟨⟨9,.data⟩,by simp,rfl,rfl⟩ rfl rfl (fun _=>rfl) (fun _=>rfl) (fun _ _=>rfl)
   ·exact fK (iL W w.heap.size d) (by simp [fX,kK]) (fun _ _=>rfl) (fun g L wx hm hl=>⟨kU w.heap.size 1,xH _ _ _ wx w.heap.size 1 (by omega) rfl rfl,rfl⟩)
   ·exact fK (iL W w.heap.size d) (by simp [fX,kK]) (fun _ _=>rfl) (fun g L wx hm hl=>⟨.string d.name,Dq _ _ _ wx _ d.name rfl (hm.val 11 (hl ⟨11,.data⟩ (by simp) rfl)) (HC _ hm.below).1,rfl⟩)
   ·exact fK (iL W w.heap.size d) (by simp [fX,kK]) (fun _ _=>rfl) (fun g L wx hm hl=>⟨_,sW _ _ _ wx _ rfl (hm.val 12 (hl ⟨12,.data⟩ (by simp) rfl)),rfl⟩)
   ·exact jQ (iL W w.heap.size d) underlying319 (r:=(14,nH,13)) (by simp [kK]) (fun _ _=>trivial) ⟨⟨0,.data⟩,by simp,rfl,rfl⟩ ⟨⟨13,.data⟩,by simp,rfl,rfl⟩ rfl rfl (fun _=>rfl) (fun _=>rfl) (fun _ _=>rfl)
   ·exact fK (iL W w.heap.size d) (by simp [fX,kK]) (fun _ _=>rfl) (fun g L wx hm hl=>⟨kU w.heap.size 2,xH _ _ _ wx w.heap.size 2 (by omega) rfl rfl,rfl⟩)
   ·exact fK (iL W w.heap.size d) (by simp [fX,kK]) (fun _ _=>rfl) (fun g L wx hm hl=>⟨.string d.pool,Dq _ _ _ wx _ d.pool rfl (hm.val 15 (hl ⟨15,.data⟩ (by simp) rfl)) (HC _ hm.below).2.1,rfl⟩)
   ·exact fK (iL W w.heap.size d) (by simp [fX,kK]) (fun _ _=>rfl) (fun g L wx hm hl=>⟨_,sW _ _ _ wx _ rfl (hm.val 16 (hl ⟨16,.data⟩ (by simp) rfl)),rfl⟩)
   ·exact jQ (iL W w.heap.size d) underlying319 (r:=(18,nL,17)) (by simp [kK]) (fun _ _=>trivial) ⟨⟨0,.data⟩,by simp,rfl,rfl⟩ ⟨⟨17,.data⟩,by simp,rfl,rfl⟩ rfl rfl (fun _=>rfl) (fun _=>rfl) (fun _ _=>rfl)
   ·exact fK (iL W w.heap.size d) (by simp [fX,kK]) (fun _ _=>rfl) (fun g L wx hm hl=>⟨_,sW _ _ _ wx Lw rfl rfl,rfl⟩)
   ·exact jQ (iL W w.heap.size d) underlying319 (r:=(20,jW,19)) (by simp [kK]) (fun _ _=>trivial) ⟨⟨0,.data⟩,by simp,rfl,rfl⟩ ⟨⟨19,.data⟩,by simp,rfl,rfl⟩ rfl rfl (fun _=>rfl) (fun _=>rfl) (fun _ _=>rfl)
   ·exact Bq (iL W w.heap.size d) (.inl rfl) (fun _ _=>trivial) ⟨⟨0,.data⟩,by simp,rfl,.inl rfl⟩ (fun _ _=>rfl) (fun g L wx hm hl=>by kernel_rfl)
   ·exact Bq (iL W w.heap.size d) (.inr rfl) (fun _ _=>trivial) ⟨⟨21,.data⟩,by simp,rfl,.inr rfl⟩ (fun _ _=>rfl) (fun g L wx hm hl=>by rw [<- (hm.mv (hl ⟨21,.data⟩ (by simp) rfl)).2];kernel_rfl)
  ·intro g L wx hL hm
   have hD:=PG hL hm
   refine hK _ _ (Met.intro (hJ _ _ ?_))
   (repeat apply Exists.intro)
   refine ⟨?rel,rfl⟩
   case rel=>exact hD
 case rest=>
  obtain ⟨b,rfl,hbge,hbl,hvals⟩:=hcut
  rw [oV] at hbge
  have c0:wc.cell? ⟨w.heap.size,0,none⟩=some (.int .u8 (d.kind:Int)):=aDy hbl (qB W d w 0 _ rfl)
  have c4:wc.cell? ⟨w.heap.size,4,none⟩=some (.bool d.opn):=aDy hbl (qB W d w 4 _ rfl)
  have hown0:wc.ownsRow (w.heap.size+1) 9 1 (.slice (some ⟨w.heap.size+1,0,none⟩) 2 2) 2 (sv [uQ,W d.kind]):=by
   refine ⟨rfl,.inr ⟨w.heap.size+1,2,#[.string uQ,.string (W d.kind)],rfl,aDl _,?_,aDl _,by decide,rfl,rfl⟩⟩
   rw [hbl.block _ (by rw [oV];omega)]
   exact Ix W d w
  go_wp2_with fail
  with_reducible refine (CD d.kind hk _).mono ?_
  rintro e wN ⟨fb,n,rfl,hfr,hbN,hfresh⟩
  have hn:n=(cC d.kind).length:=by have:=hfr.1;simpa [sv] using this.symm
  have hn4:n<=4:=by rw [hn];exact qT _
  have c4N:=aDy hbN c4
  obtain ⟨mn,mm,f,hM,i1,i2,i3,i4,i5⟩:=hvals
  have hMN:=hM.below hbN
  have HV:Hid (∀ key,key∈cC d.kind->f (.string key.data.toList)=some (gN (Gy d key.data.toList))):=aEb (fun key h=>UN i1 i2 i3 i4 i5 (Hn h))
  have hwN:w.heap.size+2<=wN.heap.size:=by have h1:=hbl.size;have h2:=hbN.size;rw [oV] at h1;omega
  have hstart:Kg w.heap.size (gM W d 0) wN (.slice (some ⟨w.heap.size+1,0,none⟩) 2 2) wN:=
   ⟨by simpa [gM] using hown0.kept (row:=none) ⟨hbN.os,hbN.tape,hbN.output,hbN.size,fun i hi _=>hbN.block i hi⟩ (.inr (by simp [Value.ownBlock])),aS.refl _ _,fun g e=>by cases e;exact .inl rfl⟩
  have HST:=aEb hstart
  have HBL:=aEb (aDu (aDu hb0 hbl) hbN)
  have HFR:=aEb hfr
  have HN:=aEb hn
  have HM:=aEb hMN
  have HC4:=aEb c4N
  have hbsz:b<wc.heap.size:=hM.lt
  have hwc:w.heap.size+2<=wc.heap.size:=by have h1:=hbl.size;rw [oV] at h1;omega
  have HFS:=aEb hfresh
  clear hfresh hstart hfr hn hMN c4N hown0 hbl hbN hM i1 i2 i3 i4 i5 c0 c4 hb0 hw hp hu
  obtain ⟨i0,hi,hz0,hz1,hz2⟩:=info_parts Wu
  have HI:=aEb (And.intro hi (And.intro hz0 (And.intro hz1 hz2)))
  clear hi hz0 hz1 hz2
  go_wp2
  go_loopw [3, 6, 33] (fun v _ i wr => ∃ k : Nat, i = .int .i64 k /\ k <= n /\ Kg w.heap.size (gM W d k) wN v wr) (fun _ _ i _ => n - (intOf i).toNat)
  case atStart=>exact ⟨0,rfl,aDm _,HST.out⟩
  case round=>
   obtain ⟨k,rfl,hkn,hpt⟩:=hrel
   clear HST
   by_cases hlt:k<n
   ·obtain ⟨_,_,_,⟨_,e1,_⟩ | ⟨g,o,e1,hg,hr⟩⟩:=HFR.out
    ·omega
    cases e1
    have hgf:wc.heap.size<=g:=HFS.out g rfl
    have hkL:k<(cC d.kind).length:=by have:=HN.out;omega
    have hmem:=aBz hkL
    have hval:=HV.out _ hmem
    have hcell:wr.cell? ⟨g,o+k,none⟩=some (.string (cC d.kind)[k]):=hpt.2.1.cell (hr k _ (by simp [sv,hkL])) (by show g≠_;omega)
    have hop:wr.cell? ⟨w.heap.size,4,none⟩=some (.bool d.opn):=hpt.2.1.cell HC4.out (by show w.heap.size≠_;omega)
    have hMr:dR 9 b mn mm f wr:=HM.out.only hpt.2.1 (by omega)
    have HT:=aEb (aAr hkL)
    have h5:=Hn hmem
    generalize (cC d.kind)[k]=key at *
    have HP:=aEb hpt
    clear hpt hmem
    have HPL:=aEb (Aq W d k)
    have HS:=aEb (JB W d HT.out)
    by_cases hskip:key.data.toList=jW/\d.opn=false
    ·obtain ⟨h1,h2⟩:=hskip
     have HE:Hid (sH d key=[]):=aEb (aEc ⟨h1,h2⟩)
     rw [h2] at hop
     obtain rfl:key=⟨#[97,99,99,101,115,115]⟩:=BF h1
     clear h1 h2 hval h5
     go_wp2
     go_roundw
     case rel => exact ⟨k + 1, by go_num, by omega, by rw [HS.out, HE.out, aCl]; exact HP.out⟩
     case measure=>simp [intOf];omega
    ·have HE:Hid (sH d key=[key++eqB++Gy d key.data.toList]):=aEb (aEd hskip)
     have hvs:=Ho d hnm hpo key.data.toList
     have hks:key.size<=8:=by
      have h2:key.data.toList.length=key.size:=by simp
      rw [<- h2]
      rcases h5 with h | h | h | h | h <;> rw [h] <;> decide
     have hHw:w.heap.size+1<wr.heap.size:=by have:=HP.out.2.1.size;omega
     have hpl:(gM W d k).length+1<=100000000:=by have:=HPL.out;omega
     have hkk:=qS key (by unfold maxLen;omega)
     have HKK:=aEb hkk
     have HVA:=aEb hval
     clear hkk hval h5
     cases ha:(key.toList == [97,99,99,101,115,115])
     ·have HSK:=aEb hskip
      clear hskip
      generalize Gy d key.data.toList=val at *
      go_wp2_with (first
       | (refine gT rfl (.tmp 46) (.tmp 47) 319 rfl mP underlying319 KH hMr rfl _ rfl HKK.out ?_;intro x hx0;have hx1:=hx0.trans (by rw [HVA.out];rfl:_=gN val);clear hx0;unfold gN at hx1;subst hx1)
       | (at_builtin;refine AE rfl (.tmp 43) (.tmp 51) rfl _ _ _ _ _ rfl HP.out _ rfl hpl hHw ?_;intro v3 w3 hp3))
      go_roundw
      case rel => exact ⟨k + 1, by go_num, by omega, by rw [HS.out, HE.out]; exact hp3⟩
      case measure=>simp [intOf];omega
     ·have hkl:key.data.toList=jW:=(aBc key).symm.trans (beq_iff_eq.mp ha)
      have h2:d.opn=true:=by
       cases hd:d.opn
       ·exact absurd ⟨hkl,hd⟩ hskip
       ·rfl
      rw [h2] at hop
      obtain rfl:key=⟨#[97,99,99,101,115,115]⟩:=BF hkl
      clear hskip hkl h2 ha
      generalize Gy d (⟨#[97,99,99,101,115,115]⟩:ByteArray).data.toList=val at *
      go_wp2_with (first
       | (refine gT rfl (.tmp 46) (.tmp 47) 319 rfl mP underlying319 KH hMr rfl _ rfl HKK.out ?_;intro x hx0;have hx1:=hx0.trans (by rw [HVA.out];rfl:_=gN val);clear hx0;unfold gN at hx1;subst hx1)
       | (at_builtin;refine AE rfl (.tmp 43) (.tmp 51) rfl _ _ _ _ _ rfl HP.out _ rfl hpl hHw ?_;intro v3 w3 hp3))
      go_roundw
      case rel => exact ⟨k + 1, by go_num, by omega, by rw [HS.out, HE.out]; exact hp3⟩
      case measure=>simp [intOf];omega
   ·obtain rfl:k=n:=by omega
    obtain ⟨⟨_,⟨_,e0⟩ | ⟨g2,cap,cur,rfl,hb2,hg2,h2,h3,h4,h5⟩⟩,ho2,_⟩:=hpt
    ·have:=Ea W d k
     omega
    have hbl2:Below w.heap.size w wr:=ho2.toBelow HBL.out (by omega) (by omega)
    have hcs:∀ (j:Nat) x,(gM W d k)[j]? = some x->wr.cell? ⟨g2,0+j,none⟩=some (.string x):=by
     intro j x hx
     have h6:cur.toList[j]? = some (.string x):=by
      have h7:(cur.toList.take ((gM W d k).length*1))[j]? = some (.string x):=by rw [h5];simp [sv,hx]
      rw [List.getElem?_take] at h7
      split at h7
      ·exact h7
      ·cases h7
     simp only [World.cell?,hg2,aDa]
     simpa using h6
    have hpn:=Aq W d k
    have HJ:Hid (gM W d k=gM W d (cC d.kind).length):=aEb (by rw [<- HN.out])
    have hjl2:(Lib.join ((gM W d k).map (·.data.toList)) [32]).length<=140737488355328:=by rw [HJ.out];exact hjl
    have hglt:g2<wr.heap.size:=(Array.getElem?_eq_some_iff.1 hg2).1
    have HG:=aEb (And.intro hcs (And.intro hglt (And.intro hjl2 hbl2)))
    clear hcs hglt hjl2 hbl2 hg2 h5 h4 ho2
    have hT:Hid (Lib.join ((gM W d k).map (·.data.toList)) [32]=oL W d):=aEb (by unfold oL;rw [HJ.out])
    go_wp2_with fail
    with_reducible refine (strings_Join g2 0 cap _ ⟨#[32]⟩ _ HG.out.1 HG.out.2.1 (by omega) h2 HG.out.2.2.1).mono ?_
    rintro e w4 ⟨rfl,hb4⟩
    have HB4:=aEb (aDu HG.out.2.2.2 hb4)
    clear hb4
    go_wp2
    go_ret
    exact ⟨by rw [<- hT.out];rfl,HB4.out⟩
end
def lY (w:World):Prop:=∃ m:Int,w.cell? ⟨2,0,none⟩=some (zi m)
theorem lY.below (h:lY w) (k:Below w.heap.size w w'):lY w':=let ⟨m,hm⟩:=h;⟨m,aDy k hm⟩
structure rI (W:Nat->ByteArray) (w:World):Prop where
 pow:QF w
 units:lA w
 words:qQ W w
 max:lY w
theorem rI.below {W:Nat->ByteArray} (h:rI W w) (k:Below w.heap.size w w'):rI W w':=⟨h.pow.below k,h.units.below k,h.words.below k,h.max.below k⟩
def aI (sep s:ByteArray):List ByteArray:=Lib.splitB sep 0 (Lib.countB s sep) s
def fP (s:ByteArray) (c:UInt8):ByteArray × ByteArray × Bool:=(⟨(Lib.cut s.data.toList [c]).1.toArray⟩,⟨(Lib.cut s.data.toList [c]).2.1.toArray⟩,(Lib.cut s.data.toList [c]).2.2)
theorem eX (sep s) (h1:1<=sep.size):(aI sep s).length=Lib.countB s sep+1/\(aI sep s).length<=s.size+1:=by
 have h:=Lib.splitB_all sep h1 0 _ s rfl
 have h2:=Lib.countB_le sep h1 s.size s (aDl _)
 unfold aI
 omega
theorem xA (sep):∀ (k:Nat) (s x:ByteArray),x∈Lib.splitB sep 0 k s->x.size<=s.size
 | 0,s,x,h=>by
  rw [Lib.splitB_zero] at h
  simp at h;subst h;exact aDl _
 | k+1,s,x,h=>by
  unfold Lib.splitB at h
  split at h
  ·simp at h;subst h;exact aDl _
  ·rcases aC0.1 h with rfl | h
   ·rw [aA0];omega
   ·have:=xA sep k _ _ h
    rw [aA0] at this;omega
theorem lT (h:x∈aI sep s):x.size<=s.size:=xA _ _ _ _ h
theorem oA (s) (c:UInt8):(fP s c).1.size<=s.size/\(fP s c).2.1.size<=s.size:=by
 have h:s.data.toList.length=s.size:=by simp
 have h1:(Lib.cut s.data.toList [c]).1.length<=s.data.toList.length/\(Lib.cut s.data.toList [c]).2.1.length<=s.data.toList.length:=by
  unfold Lib.cut
  split
  ·exact ⟨by simp only [aB7];omega,by simp only [aB5];omega⟩
  ·exact ⟨aDl _,aDm _⟩
 rw [h] at h1
 unfold fP ByteArray.size
 simpa using h1
theorem Dj (sep s) (w) (hm:lY w) (hs:s.size<4294967281) (h1:1<=sep.size) (n) (hn:Hid (n=(aI sep s).length)):
  Calls prog 176 #[.string s,.string sep] w fun e w'=>e=.returned (.slice (some ⟨w.heap.size,0,none⟩) n n)/\w'=w.alloc (.cells (sv (aI sep s)).toArray 9):=by
 obtain ⟨m,hm⟩:=hm
 rw [hn.out,(eX sep s h1).1]
 exact Any.strings_Split { laysM146 with } laysM146.i9 s sep m w hs hm h1
theorem JX (s) (c:UInt8) (w) (hm:lY w) (hs:s.size<4294967281) (x y) (b:Bool) (hx:Hid (fP s c=(x,y,b))):
  Calls prog 182 #[.string s,.string ⟨#[c]⟩] w fun e w'=>e=.returned (.tuple #[.string x,.string y,.bool b])/\Below w.heap.size w w':=by
 obtain ⟨m,hm⟩:=hm
 refine (Any.strings_Cut { laysM145 with } s ⟨#[c]⟩ m w hs hm).mono ?_
 rintro e w' ⟨rfl,k,rfl⟩
 have h:=hx.out
 unfold fP at h
 cases h
 exact ⟨rfl,⟨rfl,rfl,rfl,aDl _,fun _ _=>rfl⟩⟩
section
open Go.Proofs.Tryz
open Go.RowKit Go.Maps
def qH (b:Nat) (cs:Array Value) (t:TypeId) (w:World):Prop:=w.heap[b]? = some (.cells cs t (0,0))
section
variable {b:Nat} {cs:Array Value} {t:TypeId} {w w':World}
theorem qH.lt (h:qH b cs t w):b<w.heap.size:=(Array.getElem?_eq_some_iff.1 h).1
theorem qH.new (cs:Array Value) (t) (w:World):qH w.heap.size cs t (w.alloc (.cells cs t)):=oG w _
theorem qH.cell (h:qH b cs t w) (j:Nat):w.cell? ⟨b,j,none⟩=cs[j]? := by
 unfold qH at h
 unfold World.cell?
 rw [h]
 simp
theorem qH.frozen (h:qH b cs t w) (j:Nat):w.frozen? ⟨b,j,none⟩=false:=by
 unfold qH at h
 unfold World.frozen?
 rw [h]
 simp
theorem qH.below (h:qH b cs t w) (k:Below w.heap.size w w'):qH b cs t w':=(k.block b h.lt).trans h
theorem qH.alloc (h:qH b cs t w) (o):qH b cs t (w.alloc o):=Hj w o h
theorem qH.only (h:qH b cs t w) (k:aS c w w') (hne:b≠c):qH b cs t w':=(k.block b h.lt (by simpa using hne)).trans h
theorem qH.set (h:qH b cs t w) (j) (v):qH b (cs.setIfInBounds j v) t (w.setCell ⟨b,j,none⟩ v):=by
 unfold qH at *
 unfold World.setCell
 simp [Array.getElem?_modify,h]
theorem qH.wrote (h:qH b cs t w) (k:jJ b j v w w'):qH b (cs.setIfInBounds j v) t w':=by
 obtain ⟨w1,h1,h2⟩:=k
 have h3:=(h.below h1).set j v
 exact (h2.block b (h.below h1).lt).trans h3
theorem qH.fresh (h:qH b cs t w):b≠w.heap.size:=aC8 h.lt
end
theorem cM {Q:Exit->Act->World->Prop} (hgd:o.guard=none) (ty) (x y) (ho:o.op=.store ty x y)
  {old:Array Value} (hB:qH b old t w) (cs:Array Value) (hx:a.eval x=.pointer (some ⟨b,0,none⟩)) (hy:a.eval y=.agg cs) (hi:(prog.info? ty).map (·.size)=some cs.size) (hold:old.size=cs.size) (h1:cs.all (·.oneCell')=true)
  (h:∀ w',qH b cs t w'->aS b w w'->w'.heap.size=w.heap.size->wpList prog ops Q rest (a.put o.dst undef) w'):wpList prog ops Q (o::rest) a w:=by
 refine wpList_store_row hgd ty x y ho b cs hx hy t old hB hi hold h1 (h _ ?_ ?_ (setRow_size _ _ _))
 ·exact setRow_heap w b old cs t (0,0) hB
 ·exact ⟨rfl,rfl,rfl,by simp,fun k _ hn=>setRow_other w b k cs (fun e=>hn (by rw [e]))⟩
end
section
open Go.Proofs.Tryz
open Go.RowKit Go.Maps
def lU:dN:=⟨0,⟨#[]⟩,⟨#[]⟩,0,false⟩
def Gi (d:dN) (key:List UInt8) (s:ByteArray):dN:=
 if key=nG\/key=nA then { d with size:=gR s.data.toList } else if key=nH then { d with name:=s } else if key=nL then { d with pool:=s } else { d with opn:=Ux s }
def rO:List (List UInt8)->dN->List ByteArray->Option (List (List UInt8) × dN)
 | due,d,[]=>some (due,d)
 | due,d,f::r=>
  let c:=fP f 61
  if c.2.2=true/\c.1.data.toList∈due/\(vB c.1.data.toList c.2.1).2.2=true then rO (due.erase c.1.data.toList) (Gi d c.1.data.toList c.2.1) r else none
def kL (W:Nat->ByteArray) (s:ByteArray):Int:=Lib.idxOfS ((List.range 7).map W) s
def JM:ByteArray:=⟨#[32]⟩
def iI (W:Nat->ByteArray) (s:ByteArray):Option dN:=
 if s.size<=500 then
  match aI JM s with
  | m::k::r=>
   if m=uQ/\1<=kL W k then
    match rO ((cC (kL W k).toNat).map (·.data.toList)) { lU with kind:=(kL W k).toNat } r with
    | some (due,d)=>if due.erase jW=[] then some d else none
    | none=>none
   else none
  | _=>none
 else none
def iW (b n:Nat) (due:List (List UInt8)) (w:World):Prop:=∃ f,dR 9 b n due.length f w/\(∀ k,f (.string k)=if k∈due then some (zi 1) else none)/\due.Nodup
theorem iW.of_put {due:List (List UInt8)} {f:Lit->Option Value} (hf:∀ k,f (.string k)=if k∈due then some (zi 1) else none) (hn:due.Nodup) (hk:key ∉ due)
  (h:dR 9 b n (if (f (.string key)).isSome=true then due.length else due.length+1) (Df f (.string key) (some (zi 1))) w):iW b n (due++[key]) w:=by
 refine ⟨Df f (.string key) (some (zi 1)),?_,fun k=>?_,?_⟩
 ·rw [hf,aEd hk] at h
  simpa using h
 ·by_cases e:k=key
  ·subst e;simp [Df]
  ·rw [nB _ _ (by simpa using e),hf]
   simp [e]
 ·rw [List.nodup_append]
  refine ⟨hn,by simp,fun x hx y hy=>?_⟩
  simp at hy
  subst hy
  exact fun e=>hk (e ▸ hx)
theorem iW.of_drop {due:List (List UInt8)} {f:Lit->Option Value} (hf:∀ k,f (.string k)=if k∈due then some (zi 1) else none) (hn:due.Nodup)
  (h:dR 9 b n (if (f (.string key)).isSome=true then due.length - 1 else due.length) (Df f (.string key) none) w):iW b n (due.erase key) w:=by
 refine ⟨Df f (.string key) none,?_,fun k=>?_,hn.erase key⟩
 ·rw [hf] at h
  rw [List.length_erase]
  by_cases hk:key∈due
  ·simpa [hk] using h
  ·simpa [hk] using h
 ·by_cases e:k=key
  ·subst e;simp [Df,hn.mem_erase_iff]
  ·rw [nB _ _ (by simpa using e),hf]
   simp [hn.mem_erase_iff,e]
theorem iW.below {due:List (List UInt8)} (h:iW b n due w) (k:Below w.heap.size w w'):iW b n due w':=let ⟨f,h1,h2⟩:=h;⟨f,h1.below k,h2⟩
theorem iW.only {due:List (List UInt8)} (h:iW b n due w) (k:aS c w w') (hne:b≠c):iW b n due w':=let ⟨f,h1,h2⟩:=h;⟨f,h1.only k hne,h2⟩
theorem IC (k):((cC k).map (·.data.toList)).Nodup:=by unfold cC;split <;> decide
theorem Ls (d) (key) (s):(Gi d key s).cells=d.cells.set! (vB key s).1 (vB key s).2.1:=by
 unfold Gi vB dN.cells
 split
 ·simp
 split
 ·simp
 split
 ·simp
 ·simp
theorem VT (w):(zeroValue 3).run prog w=.ok (zi 0) w:=by kernel_rfl
def PM (W:Nat->ByteArray) (s:ByteArray) (w:World) (e:Ending) (w':World):Prop:=
 (∃ (d:dN) (n:Int),e=.returned (.tuple #[.agg d.cells,zi n])/\iI W s=(if n=0 then some d else none))/\Below w.heap.size w w'
theorem uY {Q:Exit->Act->World->Prop} (hw:Region.wanted o (yielded ops a.tmps)=true) (mo ko) (t) (ho:o.op=.lookup t mo ko false)
  (L:Keyed prog K) (ht:prog.underlying t=some (.map K e)) (hz:∀ w,(zeroValue e).run prog w=.ok z w) {f:Lit->Option Value} (h:dR K b n m f w) (hm:a.eval mo=.map (some b)) (key) (hk:a.eval ko=key) {kl:Lit} (hkl:keyOf prog K key=some kl)
  (hK:∀ v,v=(f kl).getD z->wpList prog ops Q rest (a.put o.dst v) w):wpList prog ops Q (o::rest) a w:=by
 refine wpList_step fun K' hK'=>?_
 rw [aEc hw]
 have hrun:=h.look L ht (hz w) hkl
 unfold Oper.wp
 simp [execOp,ho,hm,hk,hrun,Result.andThen]
 exact hK' _ _ (hK _ rfl)
theorem pE {Q:Exit->Act->World->Prop} (hgd:o.guard=none) (mo) (t) (ho:o.op=.call { callee:=.builtin .len,args:=#[mo],argTypes:=#[t] })
  (ht:prog.underlying t=some (.map K e)) {f:Lit->Option Value} (h:dR K b n m f w) (hm:a.eval mo=.map (some b))
  (hK:wpList prog ops Q rest (a.put o.dst (zi m)) w):wpList prog ops Q (o::rest) a w:=by
 refine wpList_plain hgd fun K' hK'=>?_
 have hrun:=h.len ht o.type
 unfold Oper.wp
 simp [execOp,ho,resolve,invoke,builtin,hm,hrun,Result.andThen]
 exact hK' _ _ hK
abbrev lH (b:Nat) (d:dN) (w:World):Prop:=qH b d.cells 220 w
theorem NH {d:dN} (h:lH b d w):(loadVar 220 ⟨b,0,none⟩).run prog w=.ok (.agg d.cells) w:=by
 have h0:=(h.cell 0).trans (by rfl:_=some (d.cells[0]'(by show _<5;decide)))
 have h1:=(h.cell 1).trans (by rfl:_=some (d.cells[1]'(by show _<5;decide)))
 have h2:=(h.cell 2).trans (by rfl:_=some (d.cells[2]'(by show _<5;decide)))
 have h3:=(h.cell 3).trans (by rfl:_=some (d.cells[3]'(by show _<5;decide)))
 have h4:=(h.cell 4).trans (by rfl:_=some (d.cells[4]'(by show _<5;decide)))
 unfold loadVar
 go_simp
 rfl
theorem jE (d:dN):d.cells.all (·.oneCell')=true:=by simp [dN.cells,Value.oneCell']
theorem fS: (prog.info? 220).map (·.size)=some 5:=by kernel_rfl
theorem QS (W:Nat->ByteArray) (k) (w) (hw:qQ W w) (i:Int) (hi:Hid (kL W k=i)):Calls prog 184 #[.slice (some ⟨0,0,none⟩) 7 7,.string k] w fun e w'=>e=.returned (zi i)/\w'=w:=by
 have h:=slices_Index_string 0 0 7 7 ((List.range 7).map W) k w (by simp) (by omega) (fun j hj=>by
  have hj7:j<7:=by simpa using hj
  rw [aDa,hw j hj7]
  simp [List.getD_eq_getElem?_getD,hj7])
 rw [show ((List.range 7).map W).take 7=(List.range 7).map W from aAz (by simp)] at h
 rw [show Lib.idxOfS ((List.range 7).map W) k=i from hi.out] at h
 exact h
theorem Ta (W:Nat->ByteArray) (k):kL W k<=6:=by
 have gen:∀ (zs:List ByteArray) (i:Nat),Lib.idxFromS zs k i<(i+zs.length:Nat):=by
  intro zs
  induction zs with
  | nil=>intro i;simp [Lib.idxFromS];omega
  | cons z r ih=>
   intro i
   have:=ih (i+1)
   simp only [Lib.idxFromS]
   split
   ·simp;omega
   ·simp at this ⊢;omega
 have:=gen ((List.range 7).map W) 0
 simp at this
 unfold kL Lib.idxOfS
 omega
theorem kF {d:dN} {n:Int} {W:Nat->ByteArray} (h1:a.tmps.getD 2 undef=kU b 0) (h2:a.tmps.getD 3 undef=zi n) (hd:a.defers=[]) (hD:lH b d w') (hp:iI W s=(if n=0 then some d else none)) (hb:Below w.heap.size w w'):
  bodyPost prog Tryz.f133 (PM W s w) .ret a w':=by
 refine bodyPost_ret (v:=.tuple #[.agg d.cells,zi n]) ?_ hd ⟨⟨d,n,rfl,hp⟩,hb⟩
 rw [results_cell_tmp (p:=2) (u:=3) (ty:=220) (by kernel_rfl)]
 rw [h1,h2]
 simp [asAddr,kU,Result.andThen,NH hD]
set_option maxRecDepth 100000 in
set_option maxHeartbeats 1600000 in
theorem DP (W:Nat->ByteArray) (s:ByteArray) (w:World) (hs:s.size<=9223372036854775807) (hE:rI W w):Calls prog 133 #[.string s] w (PM W s w):=by
 have HE:=aEb hE
 clear hE
 go_enter func133, ntmps133
 have HN:=aEb (And.intro (qH.new lU.cells 220 w) ((aDt w.heap.size w).alloc (aDl _) (.cells lU.cells 220)))
 by_cases hl:500<s.size
 ·have HP:Hid (iI W s=none):=aEb (aEd (by omega))
  go_wp2
  exact kF (b:=w.heap.size) (d:=lU) (n:=3) rfl rfl rfl HN.out.1 HP.out HN.out.2
 ·have hmax:lY (w.alloc (.cells #[.int .u8 0,.string ⟨#[]⟩,.string ⟨#[]⟩,zi 0,.bool false] 220)):=(HE.out.below HN.out.2).max
  have hsz:s.size<4294967281:=by omega
  go_wp2_with fail
  with_reducible refine (Dj ⟨#[32]⟩ s _ hmax hsz (by decide) (aI JM s).length (aEb rfl)).mono ?_
  rintro e w1 ⟨rfl,hw1⟩
  have hsl:=(eX JM s (by decide)).2
  have hb1:Below w.heap.size w w1:=by rw [hw1];exact HN.out.2.alloc (by simp) _
  have hD1:lH w.heap.size lU w1:=by rw [hw1];exact HN.out.1.alloc _
  have hr1:Rd 1 w1 (.slice (some ⟨w.heap.size+1,0,none⟩) (aI JM s).length (aI JM s).length) (aI JM s).length (aI JM s).length (sv (aI JM s)):=by
   rw [hw1]
   have:=vC (w.alloc (.cells lU.cells 220)) (sv (aI JM s)).toArray 9 (aI JM s).length (by simp [sv]) (by unfold maxLen;omega)
   rw [aB6] at this
   exact this
  have hl1:w.heap.size+2<=w1.heap.size:=by rw [hw1];simp
  have HPD:Hid (iI W s=(match aI JM s with
  | m::k::r=>
   if m=uQ/\1<=kL W k then
    match rO ((cC (kL W k).toNat).map (·.data.toList)) { lU with kind:=(kL W k).toNat } r with
    | some (due,d)=>if due.erase jW=[] then some d else none
    | none=>none
   else none
  | _=>none)):=aEb (aEc (by omega))
  have HSZ:Hid (∀ x∈aI JM s,x.size<=500):=aEb (fun x hx=>aC7 (lT hx) (by omega))
  clear hw1 hmax
  generalize aI JM s=L at *
  have H1:=aEb (And.intro hb1 (And.intro hD1 (And.intro hr1 hl1)))
  clear hb1 hD1 hr1 hl1
  match L with
  | []=>
   go_wp2_with (refine cM rfl 220 (.tmp 2) (.tmp 30) rfl H1.out.2.1 lU.cells rfl rfl fS rfl (jE lU) ?_; intro w2 hD2 hO2 hs2)
   exact kF (b:=w.heap.size) (d:=lU) (n:=140) rfl rfl rfl hD2 HPD.out (hO2.toBelow H1.out.1 (by have:=H1.out.2.2.2;omega) (aDl _))
  | [x]=>
   go_wp2_with (refine cM rfl 220 (.tmp 2) (.tmp 30) rfl H1.out.2.1 lU.cells rfl rfl fS rfl (jE lU) ?_; intro w2 hD2 hO2 hs2)
   exact kF (b:=w.heap.size) (d:=lU) (n:=140) rfl rfl rfl hD2 HPD.out (hO2.toBelow H1.out.1 (by have:=H1.out.2.2.2;omega) (aDl _))
  | m::k::r=>
   have hm:w1.cell? ⟨w.heap.size+1,0,none⟩=some (.string m):=by
    obtain ⟨_,_,_,⟨e1,_⟩ | ⟨g,o,e1,hg,hr⟩⟩:=H1.out.2.2.1
    ·simp at e1
    ·cases e1;exact hr 0 _ rfl
   have hkc:w1.cell? ⟨w.heap.size+1,1,none⟩=some (.string k):=by
    obtain ⟨_,_,_,⟨e1,_⟩ | ⟨g,o,e1,hg,hr⟩⟩:=H1.out.2.2.1
    ·simp at e1
    ·cases e1;exact hr 1 _ rfl
   by_cases hmk:m=uQ
   ·subst hmk
    unfold uQ at hm
    go_upto_region 6 with fail
    have hwd:=fun n:Nat=>((HE.out.below H1.out.1).below (w':=w1.drewN n) ⟨rfl,rfl,rfl,aDl _,fun _ _=>rfl⟩).words
    have HKI:Hid (∃ i,kL W k=i):=aEb ⟨_,rfl⟩
    obtain ⟨i,hi⟩:=HKI.out
    have HI:=aEb hi
    have hi6:i<=6:=hi ▸ Ta W k
    clear hi HKI
    go_quiet ((go_at_call 184; exact Calls.quiet_of_same (QS W k _ (hwd _) i HI)))
    have hb2:Below w.heap.size w (w1.drewN nq):=aDu H1.out.1 ⟨rfl,rfl,rfl,aDl _,fun _ _=>rfl⟩
    have hD2:lH w.heap.size lU (w1.drewN nq):=H1.out.2.1
    have hr2:=H1.out.2.2.1.below (w':=w1.drewN nq) ⟨rfl,rfl,rfl,aDl _,fun _ _=>rfl⟩
    have hl2:w.heap.size+2<=(w1.drewN nq).heap.size:=H1.out.2.2.2
    clear hm hkc hwd
    generalize w1.drewN nq=w2 at *
    have H2:=aEb (And.intro hb2 (And.intro hD2 (And.intro hr2 hl2)))
    clear H1 hb2 hD2 hr2 hl2
    by_cases hi1:i<1
    ·go_wp2_with (refine cM rfl 220 (.tmp 2) (.tmp 38) rfl H2.out.2.1 lU.cells rfl rfl fS rfl (jE lU) ?_; intro w3 hD3 hO3 hs3)
     exact kF (b:=w.heap.size) (d:=lU) (n:=140) rfl rfl rfl hD3 (HPD.out.trans (aEd (fun h=>by have:=HI.out;omega))) (hO3.toBelow H2.out.1 (by have:=H2.out.2.2.2;omega) (aDl _))
    ·obtain ⟨kN,rfl⟩:∃ kN:Nat,i=(kN:Int):=⟨i.toNat,by omega⟩
     have HPD2:Hid (iI W s=(match rO ((cC kN).map (·.data.toList)) { lU with kind:=kN } r with
      | some (due,d)=>if due.erase jW=[] then some d else none
      | none=>none)):=aEb (by
       have h1:=HI.out
       rw [HPD.out]
       simp only [h1]
       rw [aEc ⟨trivial,by omega⟩]
       rfl)
     clear HPD
     have hk0:0<=(kN:Int):=by omega
     have hk1:(kN:Int)<=255:=by omega
     have hmm:=@run_makeMap prog
     have hkb:1<=kN/\kN<=6:=by omega
     go_wp2_with fail
     with_reducible refine (CD kN hkb _).mono ?_
     rintro e w3 ⟨fb,n,rfl,hfr,hbN,hfresh⟩
     have hn:n=(cC kN).length:=by have:=hfr.1;simpa [sv] using this.symm
     have hn4:n<=4:=by rw [hn];exact qT _
     have hM3:=(dR.made (w2.alloc (.cells { lU with kind:=kN }.cells 220)) 9).below hbN
     have hB3:lH w2.heap.size { lU with kind:=kN } w3:=((qH.new { lU with kind:=kN }.cells 220 w2).alloc _).below hbN
     have hD3:lH w.heap.size lU w3:=((H2.out.2.1.alloc _).alloc _).below hbN
     have hb3:Below w.heap.size w w3:=aDu (((H2.out.1).alloc (by have:=H2.out.2.2.2;omega) _).alloc (by have:=H2.out.2.2.2;simp;omega) _) hbN
     have hr3:=((H2.out.2.2.1.alloc (.cells { lU with kind:=kN }.cells 220)).alloc (.map #[] 0)).below hbN
     have hl3:w.heap.size+2<=w2.heap.size:=H2.out.2.2.2
     have hs3:=hbN.size
     rw [aB6,aB6] at hs3
     rw [aB6] at hM3
     rw [aB6,aB6] at hfresh
     clear hbN H2
     generalize w2.heap.size=bd at *
     have hnd:=IC kN
     have hstart:iW (bd+1) 0 (((cC kN).map (·.data.toList)).take 0) w3:=⟨_,hM3,fun _=>rfl,by simp⟩
     have HS:=aEb (And.intro hstart (And.intro hB3 (And.intro hD3 (And.intro hb3 (And.intro hr3 (And.intro hfr hfresh))))))
     have HN4:=aEb hn
     have HND:=aEb hnd
     clear hstart hB3 hD3 hb3 hr3 hfr hfresh hM3 hn hnd
     have hfl:=qT kN
     have hks:∀ key∈cC kN,key.size<=8:=by
      intro key hk
      have h2:key.data.toList.length=key.size:=by simp
      rw [<- h2]
      rcases Hn hk with h | h | h | h | h <;> rw [h] <;> decide
     have HKS:=aEb hks
     clear hks
     go_wp2
     go_loopw [9, 47] (fun _ i wr => ∃ j : Nat, i = .int .i64 j /\ j <= n /\ iW (bd + 1) j (((cC kN).map (·.data.toList)).take j) wr /\ aS (bd + 1) w3 wr) (fun _ i _ => n - (intOf i).toNat)
     case atStart=>exact ⟨0,rfl,aDm _,HS.out.1,aS.refl _ _⟩
     case round=>
      obtain ⟨j,rfl,hjn,⟨f,hM,hf,hnod⟩,hon⟩:=hrel
      by_cases hlt:j<n
      ·obtain ⟨_,_,_,⟨_,e1,_⟩ | ⟨g,o,e1,hg,hr⟩⟩:=HS.out.2.2.2.2.2.1
       ·omega
       cases e1
       have hgf:bd+1+1<=g:=HS.out.2.2.2.2.2.2 g rfl
       have hjL:j<(cC kN).length:=by have:=HN4.out;omega
       have hcell:wr.cell? ⟨g,o+j,none⟩=some (.string (cC kN)[j]):=hon.cell (hr j _ (by simp [sv,hjL])) (by show g≠_;omega)
       have hkk:=qS (cC kN)[j] (by have:=HKS.out _ (aBz hjL);unfold maxLen;omega)
       have hnew:(cC kN)[j].data.toList ∉ ((cC kN).map (·.data.toList)).take j:=by
        have h1:=HND.out
        rw [<- aA2 j ((cC kN).map (·.data.toList)),List.nodup_append] at h1
        intro h
        refine h1.2.2 _ h _ ?_ rfl
        rw [aAw (by simpa using hjL)]
        simp
       have htk:((cC kN).map (·.data.toList)).take (j+1)=((cC kN).map (·.data.toList)).take j++[(cC kN)[j].data.toList]:=by
        rw [aAr (by simpa using hjL)]
        simp
       have HR:=aEb (And.intro hM (And.intro hf (And.intro hnod (And.intro hon (And.intro hkk (And.intro hnew htk))))))
       clear hM hf hnod hon hkk hnew htk
       have hjm:j<maxLen:=by unfold maxLen;omega
       generalize (cC kN)[j]=key at *
       go_wp2_with (refine kM rfl (.tmp 51) (.tmp 52) (.const (.int .i64 1)) 268 (.inr rfl) mP underlying268 HR.out.1 hjm rfl _ _ rfl rfl HR.out.2.2.2.2.1 ?_; intro w4 hM4 hO4)
       go_roundw
       case rel => exact ⟨j + 1, by go_num, by omega, by rw [HR.out.2.2.2.2.2.2]; exact iW.of_put HR.out.2.1 HR.out.2.2.1 HR.out.2.2.2.2.2.1 hM4, HR.out.2.2.2.1.trans hO4⟩
       case measure=>simp [intOf];omega
      ·obtain rfl:j=n:=by omega
       have hjn2:j=(cC kN).length:=HN4.out
       have hdue:iW (bd+1) j ((cC kN).map (·.data.toList)) wr:=by
        refine ⟨f,?_,?_,HND.out⟩
        ·rw [aAz (by simp;omega)] at hM;exact hM
        ·rw [aAz (by simp;omega)] at hf;exact hf
       have hB4:lH bd { lU with kind:=kN } wr:=HS.out.2.1.only hon (by omega)
       have hD4:lH w.heap.size lU wr:=HS.out.2.2.1.only hon (by omega)
       have hb4:Below w.heap.size w wr:=hon.toBelow HS.out.2.2.2.1 (by omega) (by omega)
       have hr4:=HS.out.2.2.2.2.1.only hon (by simp [Value.ownBlock];omega)
       have hs4:bd+2<=wr.heap.size:=by have:=hon.size;omega
       have hfsub:∀ key∈(cC kN).map (·.data.toList),key=nG\/key=nA\/key=nH\/key=nL\/key=jW:=by
        intro key hk
        obtain ⟨x,hx,rfl⟩:=aDc.1 hk
        exact Hn hx
       clear hM hf hnod hon hs3 hfl hjn2 hi1 hi6
       generalize (cC kN).map (·.data.toList)=keys at *
       clear HS HN4 HND HKS HI
       have HS:=aEb (And.intro hdue (And.intro hB4 (And.intro hD4 (And.intro hb4 (And.intro hr4 hfsub)))))
       clear hdue hB4 hD4 hb4 hr4 hfsub
       obtain ⟨w4,rfl⟩:∃ w4:World,w4=wr:=⟨_,rfl⟩
       match r with
       | []=>
        go_wp2
        go_loopw [57] (fun i wr => i = .int .i64 0 /\ wr = w4) (fun _ _ => 0)
        case atStart=>exact ⟨rfl,rfl⟩
        case round=>
         obtain ⟨rfl,rfl⟩:=hrel
         have HT:Hid (iW (bd+1) j keys wr/\lH bd { lU with kind:=kN } wr/\lH w.heap.size lU wr/\Below w.heap.size w wr/\iI W s=if keys.erase jW=[] then some { lU with kind:=kN } else none):=aEb ⟨HS.out.1,HS.out.2.1,HS.out.2.2.1,HS.out.2.2.2.1,HPD2.out⟩
         clear HS HPD2
         generalize ({ lU with kind:=kN }:dN)=d at *
         obtain ⟨fT,hMT,hfT,hndT⟩:=HT.out.1
         have hl5:w.heap.size<=wr.heap.size:=HT.out.2.2.2.1.size
         obtain ⟨m,hm⟩:∃ m,(keys.erase jW).length=m:=⟨_,rfl⟩
         have HM:=aEb hm
         clear hm
         rcases aBk m with hz | hz
         ·have hP:iI W s=if (0:Int)=0 then some d else none:=HT.out.2.2.2.2.trans (aEc (aAt (HM.out.trans hz)))
          have HP:=aEb hP
          clear hP
          go_wp2_with (first
           | (refine mU rfl (.tmp 85) (.const (.string ⟨#[97,99,99,101,115,115]⟩)) 268 9 rfl mP underlying268 hMT rfl _ rfl (qS ⟨#[97,99,99,101,115,115]⟩ (by decide)) ?_;intro w5 hM5 hO5;have H5:=aEb (And.intro (iW.of_drop hfT hndT hM5) hO5);clear hM5 hO5;obtain ⟨f5,hM5,hf5,hn5⟩:=H5.out.1;rw [show (keys.erase [97,99,99,101,115,115]).length=m from HM.out] at hM5)
           | (refine pE rfl (.tmp 86) 268 rfl underlying268 hM5 rfl ?_)
           | (refine wpList_load_row rfl 220 (.tmp 6) rfl bd rfl 220 d.cells (0,0) _ (HT.out.2.1.only H5.out.2 (by omega)) underlying220 rfl fS ?_)
           | (refine cM rfl 220 (.tmp 2) (.tmp 90) rfl (HT.out.2.2.1.only H5.out.2 (by omega)) d.cells rfl rfl fS rfl (jE d) ?_;intro w6 hD6 hO6 hs6))
          exact kF (b:=w.heap.size) (d:=d) (n:=0) rfl rfl rfl hD6 HP.out (hO6.toBelow (H5.out.2.toBelow HT.out.2.2.2.1 hl5 (by omega)) (aC7 hl5 H5.out.2.size) (aDl _))
         ·have hP:iI W s=if (140:Int)=0 then some lU else none:=HT.out.2.2.2.2.trans (aEd (fun e=>by have h1:=HM.out;rw [e] at h1;simp at h1;omega))
          have HP:=aEb hP
          clear hP
          go_wp2_with (first
           | (refine mU rfl (.tmp 85) (.const (.string ⟨#[97,99,99,101,115,115]⟩)) 268 9 rfl mP underlying268 hMT rfl _ rfl (qS ⟨#[97,99,99,101,115,115]⟩ (by decide)) ?_;intro w5 hM5 hO5;have H5:=aEb (And.intro (iW.of_drop hfT hndT hM5) hO5);clear hM5 hO5;obtain ⟨f5,hM5,hf5,hn5⟩:=H5.out.1;rw [show (keys.erase [97,99,99,101,115,115]).length=m from HM.out] at hM5)
           | (refine pE rfl (.tmp 86) 268 rfl underlying268 hM5 rfl ?_)
           | (refine cM rfl 220 (.tmp 2) (.tmp 89) rfl (HT.out.2.2.1.only H5.out.2 (by omega)) lU.cells rfl rfl fS rfl (jE lU) ?_;intro w6 hD6 hO6 hs6))
          exact kF (b:=w.heap.size) (d:=lU) (n:=140) rfl rfl rfl hD6 HP.out (hO6.toBelow (H5.out.2.toBelow HT.out.2.2.2.1 hl5 (by omega)) (aC7 hl5 H5.out.2.size) (aDl _))
       | f0::r1=>
        have hrl:(f0::r1).length=r1.length+1:=rfl
        have hrb:r1.length<=600:=by simp only [aB3] at hsl;omega
        have HRC:Hid (∀ (i:Nat) x,(f0::r1)[i]? = some x->w4.cell? ⟨w.heap.size+1,2+i,none⟩=some (.string x)/\x.size<=500):=by
         refine aEb fun i x hx=>⟨?_,HSZ.out x (aA9 _ (aA9 _ (List.mem_of_getElem? hx)))⟩
         obtain ⟨_,_,_,⟨e1,_⟩ | ⟨g,o,e1,hg,hr⟩⟩:=HS.out.2.2.2.2.1
         ·simp at e1
         ·cases e1
          have:=hr (2+i) (.string x) (by rw [show 2+i=i+1+1 by omega];show ((f0::r1).map Value.string)[i]? = _;rw [List.getElem?_map,hx];rfl)
          simpa using this
        go_wp2
        generalize hrr:f0::r1=r at *
        go_loopw [11, 12, 13, 14, 57] (fun _ _ _ _ i wr => ∃ (k : Nat) (due : List (List UInt8)) (d : dN), i = .int .i64 k /\ k <= r1.length + 1 /\ iW (bd + 1) j due wr /\ lH bd d wr /\ Below bd w4 wr /\ (∀ x ∈ due, x ∈ keys) /\ rO keys { lU with kind := kN } r = rO due d (r.drop k)) (fun _ _ _ _ i _ => r1.length + 1 - (intOf i).toNat)
        case atStart=>exact ⟨0,keys,{ lU with kind:=kN },rfl,aDm _,HS.out.1,HS.out.2.1,aDt _ _,fun _ h=>h,rfl⟩
        case round=>
         obtain ⟨k,due,d,rfl,hkl,hdue,hdir,hbel,hsub,hfold⟩:=hrel
         have hbw:Below w.heap.size w wr:=HS.out.2.2.2.1.trans (hbel.mono (by omega))
         have hwr:bd+2<=wr.heap.size:=by have:=hbel.size;omega
         have hD0:lH w.heap.size lU wr:=(hbel.block _ (by omega)).trans HS.out.2.2.1
         by_cases hlt:k<r1.length+1
         ·have hkr:k<r.length:=by omega
          have hdrop:=aAw hkr
          obtain ⟨hc4,hx5⟩:=HRC.out k r[k] (List.getElem?_eq_getElem hkr)
          have hcell:wr.cell? ⟨w.heap.size+1,2+k,none⟩=some (.string r[k]):=(hbel.cell (p:=⟨w.heap.size+1,2+k,none⟩) (by show w.heap.size+1<bd;omega)).trans hc4
          rw [hdrop] at hfold
          generalize r[k]=fld at *
          obtain ⟨x,y,b,hcut⟩:∃ x y b,fP fld 61=(x,y,b):=⟨_,_,_,rfl⟩
          have hsz2:=oA fld 61
          have jS:rO due d (fld::r.drop (k+1))=if b=true/\x.data.toList∈due/\(vB x.data.toList y).2.2=true then rO (due.erase x.data.toList) (Gi d x.data.toList y) (r.drop (k+1)) else none:=by
           simp only [rO,hcut]
          rw [hcut] at hsz2
          have HH:=aEb (And.intro hdue (And.intro hdir (And.intro hbel (And.intro hsub (And.intro (hfold.trans jS) (And.intro hbw hD0))))))
          have HC:=aEb hcut
          clear hdue hdir hbel hsub hfold hbw hD0 hcut jS hdrop hc4
          have hmax:=(HE.out.below HH.out.2.2.2.2.2.1).max
          have hfs:fld.size<4294967281:=by omega
          simp only at hsz2
          go_wp2_with fail
          with_reducible refine (JX fld 61 _ hmax hfs x y b HC).mono ?_
          rintro e w5 ⟨rfl,hb5⟩
          have hk5:=aDu HH.out.2.2.2.2.2.1 hb5
          have hd5:iW (bd+1) j due w5:=HH.out.1.below hb5
          have hr5:lH bd d w5:=HH.out.2.1.below hb5
          have hz5:lH w.heap.size lU w5:=HH.out.2.2.2.2.2.2.below hb5
          have hb45:Below bd w4 w5:=HH.out.2.2.1.trans (hb5.mono (by omega))
          have hl5:=hb5.size
          have H5:=aEb (And.intro hk5 (And.intro hr5 (And.intro hz5 (And.intro hb45 HH.out.2.2.2.2.1))))
          have HSUB:=aEb HH.out.2.2.2.1
          clear hk5 hr5 hz5 hb45 hb5 HH HC
          obtain ⟨f5,hM5,hf5,hn5⟩:=hd5
          have HF5:=aEb (And.intro hf5 hn5)
          clear hf5 hn5
          have hkx:=qS x (by unfold maxLen;omega)
          have HKX:=aEb hkx
          clear hkx
          cases b
          ·have HP:Hid (iI W s=if (140:Int)=0 then some lU else none):=aEb (by rw [HPD2.out,H5.out.2.2.2.2];rfl)
           go_wp2_with (refine cM rfl 220 (.tmp 2) (.tmp 81) rfl H5.out.2.2.1 lU.cells rfl rfl fS rfl (jE lU) ?_; intro w6 hD6 hO6 hs6)
           exact kF (b:=w.heap.size) (d:=lU) (n:=140) rfl rfl rfl hD6 HP.out (hO6.toBelow H5.out.1 (by omega) (aDl _))
          ·by_cases hmem:x.data.toList∈due
           ·have HL:Hid ((f5 (.string x.data.toList)).getD (zi 0)=zi 1):=aEb (by rw [HF5.out.1,aEc hmem];rfl)
            have hkey:=HS.out.2.2.2.2.2 _ (HSUB.out _ hmem)
            have hu5:=(HE.out.below H5.out.1).units
            have hda:BM bd w5:=fun i hi=>⟨_,(H5.out.2.1.cell i).trans (Array.getElem?_eq_getElem hi),H5.out.2.1.frozen i⟩
            have HQ:=aEb (And.intro hkey (And.intro hu5 hda))
            clear hkey hu5 hda
            go_wp2_with (refine uY rfl (.tmp 70) (.tmp 71) 268 rfl mP underlying268 VT hM5 rfl _ rfl HKX.out ?_; intro v hv0; have hv1 := hv0.trans HL.out; clear hv0; subst hv1)
            have hys:y.size<=140737488351232:=by omega
            have HPA:=TK bd x y w5 hys HQ.out.2.1 HQ.out.2.2 HQ.out.1
            unfold kU at HPA
            with_reducible refine HPA.mono ?_
            rintro e w6 ⟨rfl,hwr6⟩
            clear HPA
            have ho6:=hwr6.only
            have hM6:=hM5.only ho6 (by omega)
            have hr6:lH bd (Gi d x.data.toList y) w6:=by
             have:=H5.out.2.1.wrote hwr6
             unfold lH
             rw [Ls]
             exact this
            have hz6:lH w.heap.size lU w6:=H5.out.2.2.1.only ho6 (by omega)
            have hk6:Below w.heap.size w w6:=ho6.toBelow H5.out.1 (by omega) (by omega)
            have hb6:Below bd w4 w6:=ho6.toBelow H5.out.2.2.2.1 (by omega) (by omega)
            have hl6:bd+2<=w6.heap.size:=by have:=ho6.size;omega
            have H6:=aEb (And.intro hr6 (And.intro hz6 (And.intro hk6 hb6)))
            clear hr6 hz6 hk6 hb6 ho6 hwr6 hM5
            cases hok:(vB x.data.toList y).2.2
            ·have HP:Hid (iI W s=if (140:Int)=0 then some lU else none):=aEb (by rw [HPD2.out,H5.out.2.2.2.2,aEd (fun h=>by rw [hok] at h;simp at h)];rfl)
             clear hok hmem
             go_wp2_with (refine cM rfl 220 (.tmp 2) (.tmp 81) rfl H6.out.2.1 lU.cells rfl rfl fS rfl (jE lU) ?_; intro w7 hD7 hO7 hs7)
             exact kF (b:=w.heap.size) (d:=lU) (n:=140) rfl rfl rfl hD7 HP.out (hO7.toBelow H6.out.2.2.1 (by omega) (aDl _))
            ·have HF:=aEb (H5.out.2.2.2.2.trans (aEc ⟨by trivial,hmem,hok⟩))
             clear hok hmem
             go_wp2_with (refine mU rfl (.tmp 82) (.tmp 83) 268 9 rfl mP underlying268 hM6 rfl _ rfl HKX.out ?_; intro w7 hM7 hO7)
             go_roundw
             case rel => exact ⟨k + 1, due.erase x.data.toList, Gi d x.data.toList y, by go_num, by omega, iW.of_drop HF5.out.1 HF5.out.2 hM7, H6.out.1.only hO7 (by omega), hO7.toBelow H6.out.2.2.2 (by omega) (by omega), fun z hz => HSUB.out _ (List.mem_of_mem_erase hz), HF.out⟩
             case measure=>simp [intOf];omega
           ·have HL:Hid ((f5 (.string x.data.toList)).getD (zi 0)=zi 0):=aEb (by rw [HF5.out.1,aEd hmem];rfl)
            have HP:Hid (iI W s=if (140:Int)=0 then some lU else none):=aEb (by rw [HPD2.out,H5.out.2.2.2.2,aEd (fun h=>hmem h.2.1)];rfl)
            clear hmem
            go_wp2_with (first
             | (refine uY rfl (.tmp 70) (.tmp 71) 268 rfl mP underlying268 VT hM5 rfl _ rfl HKX.out ?_;intro v hv0;have hv1:=hv0.trans HL.out;clear hv0;subst hv1)
             | (refine cM rfl 220 (.tmp 2) (.tmp 81) rfl H5.out.2.2.1 lU.cells rfl rfl fS rfl (jE lU) ?_;intro w6 hD6 hO6 hs6))
            exact kF (b:=w.heap.size) (d:=lU) (n:=140) rfl rfl rfl hD6 HP.out (hO6.toBelow H5.out.1 (by omega) (aDl _))
         ·obtain rfl:k=r1.length+1:=by omega
          have HT:Hid (iW (bd+1) j due wr/\lH bd d wr/\lH w.heap.size lU wr/\Below w.heap.size w wr/\iI W s=if due.erase jW=[] then some d else none):=aEb ⟨hdue,hdir,hD0,hbw,by
           rw [HPD2.out,hfold,List.drop_of_length_le (by omega)];rfl⟩
          clear HS HPD2 hdue hdir hbel hsub hfold hbw hD0
          obtain ⟨fT,hMT,hfT,hndT⟩:=HT.out.1
          have hl5:w.heap.size<=wr.heap.size:=HT.out.2.2.2.1.size
          obtain ⟨m,hm⟩:∃ m,(due.erase jW).length=m:=⟨_,rfl⟩
          have HM:=aEb hm
          clear hm
          rcases aBk m with hz | hz
          ·have hP:iI W s=if (0:Int)=0 then some d else none:=HT.out.2.2.2.2.trans (aEc (aAt (HM.out.trans hz)))
           have HP:=aEb hP
           clear hP
           go_wp2_with (first
            | (refine mU rfl (.tmp 85) (.const (.string ⟨#[97,99,99,101,115,115]⟩)) 268 9 rfl mP underlying268 hMT rfl _ rfl (qS ⟨#[97,99,99,101,115,115]⟩ (by decide)) ?_;intro w5 hM5 hO5;have H5:=aEb (And.intro (iW.of_drop hfT hndT hM5) hO5);clear hM5 hO5;obtain ⟨f5,hM5,hf5,hn5⟩:=H5.out.1;rw [show (due.erase [97,99,99,101,115,115]).length=m from HM.out] at hM5)
            | (refine pE rfl (.tmp 86) 268 rfl underlying268 hM5 rfl ?_)
            | (refine wpList_load_row rfl 220 (.tmp 6) rfl bd rfl 220 d.cells (0,0) _ (HT.out.2.1.only H5.out.2 (by omega)) underlying220 rfl fS ?_)
            | (refine cM rfl 220 (.tmp 2) (.tmp 90) rfl (HT.out.2.2.1.only H5.out.2 (by omega)) d.cells rfl rfl fS rfl (jE d) ?_;intro w6 hD6 hO6 hs6))
           exact kF (b:=w.heap.size) (d:=d) (n:=0) rfl rfl rfl hD6 HP.out (hO6.toBelow (H5.out.2.toBelow HT.out.2.2.2.1 hl5 (by omega)) (aC7 hl5 H5.out.2.size) (aDl _))
          ·have hP:iI W s=if (140:Int)=0 then some lU else none:=HT.out.2.2.2.2.trans (aEd (fun e=>by have h1:=HM.out;rw [e] at h1;simp at h1;omega))
           have HP:=aEb hP
           clear hP
           go_wp2_with (first
            | (refine mU rfl (.tmp 85) (.const (.string ⟨#[97,99,99,101,115,115]⟩)) 268 9 rfl mP underlying268 hMT rfl _ rfl (qS ⟨#[97,99,99,101,115,115]⟩ (by decide)) ?_;intro w5 hM5 hO5;have H5:=aEb (And.intro (iW.of_drop hfT hndT hM5) hO5);clear hM5 hO5;obtain ⟨f5,hM5,hf5,hn5⟩:=H5.out.1;rw [show (due.erase [97,99,99,101,115,115]).length=m from HM.out] at hM5)
            | (refine pE rfl (.tmp 86) 268 rfl underlying268 hM5 rfl ?_)
            | (refine cM rfl 220 (.tmp 2) (.tmp 89) rfl (HT.out.2.2.1.only H5.out.2 (by omega)) lU.cells rfl rfl fS rfl (jE lU) ?_;intro w6 hD6 hO6 hs6))
           exact kF (b:=w.heap.size) (d:=lU) (n:=140) rfl rfl rfl hD6 HP.out (hO6.toBelow (H5.out.2.toBelow HT.out.2.2.2.1 hl5 (by omega)) (aC7 hl5 H5.out.2.size) (aDl _))
   ·have hne:(m.toList == [35,66,66])=false:=by
     apply beq_eq_false_iff_ne.2
     intro h
     exact hmk (BF ((aBc m).symm.trans h))
    go_wp2_with (refine cM rfl 220 (.tmp 2) (.tmp 30) rfl H1.out.2.1 lU.cells rfl rfl fS rfl (jE lU) ?_; intro w2 hD2 hO2 hs2)
    exact kF (b:=w.heap.size) (d:=lU) (n:=140) rfl rfl rfl hD2 (HPD.out.trans (aEd (fun h=>hmk h.1))) (hO2.toBelow H1.out.1 (by have:=H1.out.2.2.2;omega) (aDl _))
end
section
open Go.Proofs.Tryz
open Go.RowKit Go.Maps
deriving instance DecidableEq for dN
def isD (s:ByteArray):Bool:=(s.toList == [35,66,66])||Lib.hasPrefix s.data.toList [35,66,66,32]
theorem Yv (s) (w) (b:Bool) (hb:Hid (isD s=b)):Calls prog 132 #[.string s] w fun e w'=>e=.returned (.bool b)/\w'=w:=by
 go_enter func132, ntmps132
 cases h:(s.toList == [35,66,66])
 ·have h2:Hid (Lib.hasPrefix s.data.toList [35,66,66,32]=b):=aEb (by have:=hb.out;unfold isD at this;rw [h] at this;simpa using this)
  go_wp2_with fail
  refine (strings_HasPrefix s ⟨#[35,66,66,32]⟩ w).mono ?_
  rintro e w1 ⟨rfl,rfl⟩
  go_wp2
  go_ret
  exact ⟨by rw [<- h2.out];rfl,rfl⟩
 ·have h2:Hid (true=b):=aEb (by have:=hb.out;unfold isD at this;rw [h] at this;simpa using this)
  go_wp2
  go_ret
  rw [<- h2.out]
  exact ⟨rfl,rfl⟩
structure fD (W:Nat->ByteArray) (d:dN):Prop where
 kind:d.kind<=255
 word:1<=d.kind->d.kind<=6->(W d.kind).size<=1000
 name:d.name.size<=1000
 pool:d.pool.size<=1000
 lo:-9223372036854775808<=d.size
 hi:d.size<=9223372036854775807
def lN (W:Nat->ByteArray) (d:dN):Bool:=decide (1<=d.kind)&&decide (d.kind<=6)&&decide (iI W ⟨(oL W d).toArray⟩=some d)
theorem KC (m:Nat):∀ (l:List (List UInt8)),(∀ x∈l,x.length<=m)->Lib.lens l<=l.length*m
 | [],_=>by simp [Lib.lens]
 | x::r,h=>by
  have h1:=KC m r (fun y hy=>h y (aA9 _ hy))
  have h2:=h x (aBm ..)
  rw [show Lib.lens (x::r)=x.length+Lib.lens r by simp [Lib.lens],aB3,aDn]
  omega
theorem AX (W:Nat->ByteArray) (d) (h:fD W d) (hk:1<=d.kind/\d.kind<=6):(oL W d).length<=100000:=by
 have hl:=Aq W d (cC d.kind).length
 have hf:=qT d.kind
 have hp:=Ea W d (cC d.kind).length
 have hm:∀ x∈(gM W d (cC d.kind).length).map (·.data.toList),x.length<=1010:=by
  intro x hx
  obtain ⟨y,hy,rfl⟩:=aDc.1 hx
  have hs:y.data.toList.length=y.size:=by simp
  rw [hs]
  unfold gM at hy
  rcases aCv.1 hy with hy | hy
  ·simp at hy
   rcases hy with rfl | rfl
   ·decide
   ·have:=h.word hk.1 hk.2;omega
  ·obtain ⟨key,hkey,hy⟩:=List.mem_flatMap.1 hy
   have hkey2:=aA8 hkey
   unfold sH at hy
   split at hy
   ·simp at hy
   ·simp at hy
    subst hy
    have h1:=Ho d h.name h.pool key.data.toList
    have h2:key.data.toList.length=key.size:=by simp
    have h3:key.size<=8:=by
     rw [<- h2]
     rcases Hn hkey2 with h | h | h | h | h <;> rw [h] <;> decide
    have h4:eqB.size=1:=rfl
    rw [ByteArray.size_append,ByteArray.size_append]
    omega
 unfold oL
 generalize gM W d (cC d.kind).length=L at *
 have h1:=KC 1010 _ hm
 match L with
 | []=>simp at hp
 | x::r=>
  rw [aC3] at h1 ⊢
  rw [Lib.join_length]
  simp only [aCj,aB3,aCk] at *
  have:(r.length+1)*1010<=6*1010:=aA6 _ (by omega)
  omega
theorem qU {Q:Exit->Act->World->Prop} (hw:Region.wanted o (yielded ops a.tmps)=true) (hr:(execOp a.eval o).run prog w=.ok (.value v) w')
  (h:wpList prog ops Q rest (a.put o.dst v) w'):wpList prog ops Q (o::rest) a w:=by
 refine wpList_step fun K' hK'=>?_
 rw [aEc hw]
 unfold Oper.wp
 rw [hr]
 exact hK' _ _ h
theorem Ub (a b:dN) (w:World) (o:Oper) (ρ:Operand->Value) (x y:Operand) (ho:o.op=.binOp .neq 220 x y 220) (hx:ρ x=.agg a.cells) (hy:ρ y=.agg b.cells):(execOp ρ o).run prog w=.ok (.value (.bool (!decide (a=b)))) w:=by
 unfold execOp
 rw [ho]
 unfold dN.cells at *
 go_simp
 by_cases h:a=b
 ·subst h;simp
 ·have h2:¬ (a.kind=b.kind/\a.name.toList=b.name.toList/\a.pool.toList=b.pool.toList/\a.size=b.size/\a.opn=b.opn):=by
   rintro ⟨h1,h2,h3,h4,h5⟩
   rw [aBc,aBc] at h2 h3
   have h2':=(BF h2).trans (by rfl:_=b.name)
   have h3':=(BF h3).trans (by rfl:_=b.pool)
   cases a;cases b
   simp_all
  simp only [h,decide_false,Bool.not_false]
  repeat' split
  all_goals first | rfl | (exfalso;apply h2;refine ⟨by omega,‹_›,‹_›,‹_›,‹_›⟩)
theorem qY {cs:Array Value} (o) (ρ:Operand->Value) (x) (ty) (ho:o.op=.load ty x) (hx:ρ x=.pointer (some ⟨b,0,none⟩)) (hB:qH b cs t w) (d:TypeDesc)
  (hd:(match d with | .struct _ | .array _ _=>true | _=>false)=true) (hu:prog.underlying ty=some d) (hi:(prog.info? ty).map (·.size)=some cs.size):(execOp ρ o).run prog w=.ok (.value (.agg cs)) w:=by
 unfold execOp
 simp only [ho,hx,Instr.loadAt,Instr.sureAddr,aDe,aDh,aBw,run_loadVar_row w b t ty cs (0,0) d hB hu (by cases d <;> first | rfl | cases hd) hi]
def XZ (W:Nat->ByteArray) (b:Bool) (w:World) (e:Ending) (w':World):Prop:=(∃ n:Int,e=.returned (zi n)/\b=decide (n=0)/\(n=0\/n=140))/\Below w.heap.size w w'
set_option maxRecDepth 100000 in
set_option maxHeartbeats 1600000 in
theorem Dv (W:Nat->ByteArray) (d:dN) (w:World) (hE:rI W w) (hf:fD W d) (b:Bool) (hb:Hid (lN W d=b)):Calls prog 188 #[.agg d.cells] w (XZ W b w):=by
 have HB1:=aEb (And.intro (qH.new d.cells 220 w) ((aDt w.heap.size w).alloc (aDl _) (.cells d.cells 220)))
 have c0:(w.alloc (.cells d.cells 220)).cell? ⟨w.heap.size,0,none⟩=some (.int .u8 (d.kind:Int)):=HB1.out.1.cell 0
 have h255:=hf.kind
 have HE:=aEb hE
 have HF:=aEb hf
 clear hE hf
 go_enter func188, ntmps188
 unfold dN.cells at c0 ⊢
 by_cases hk:1<=d.kind/\d.kind<=6
 ·obtain ⟨hk1,hk6⟩:=hk
  have HT:=Ke W d (w.alloc (.cells d.cells 220)) ⟨hk1,hk6⟩ (HE.out.below HB1.out.2).words HF.out.lo HF.out.hi (HE.out.below HB1.out.2).pow (HE.out.below HB1.out.2).units HF.out.name HF.out.pool (by have:=AX W d HF.out ⟨hk1,hk6⟩;omega)
  unfold dN.cells at HT
  go_wp2_with fail
  with_reducible refine HT.mono ?_
  rintro e w2 ⟨rfl,hb2⟩
  clear HT
  have HPA:=DP W ⟨(oL W d).toArray⟩ w2 (by have:=AX W d HF.out ⟨hk1,hk6⟩;simp [ByteArray.size];omega) ((HE.out.below HB1.out.2).below hb2)
  go_wp2_with fail
  with_reducible refine HPA.mono ?_
  rintro e w3 ⟨⟨d2,n,rfl,hp⟩,hb3⟩
  clear HPA
  have hB3:qH w.heap.size d.cells 220 w3:=(HB1.out.1.below hb2).below hb3
  have hbw:Below w.heap.size w w3:=aDu (aDu HB1.out.2 hb2) hb3
  have hbz:b=(decide (n=0)&&decide (d2=d)):=by
   rw [<- hb.out]
   unfold lN
   rw [hp,decide_eq_true hk1,decide_eq_true hk6]
   by_cases hn:n=0
   ·simp [hn]
   ·simp [hn]
  have H3:=aEb (And.intro hB3 (And.intro hbw hbz))
  clear hB3 hbw hbz hp hb2 hb3 hb
  by_cases hn:n=0
  ·subst hn
   go_wp2_with (first
    | (refine cM rfl 220 (.tmp 3) (.tmp 17) rfl (qH.new #[.int .u8 0,.string ⟨#[]⟩,.string ⟨#[]⟩,.int .i64 0,.bool false] 220 w3) d2.cells rfl rfl fS rfl (jE d2) ?_;intro w4 hB4 hO4 hs4)
    | (refine qU rfl (qY _ _ (.tmp 3) 220 rfl rfl hB4 _ rfl underlying220 fS) ?_)
    | (refine qU rfl (qY _ _ (.tmp 1) 220 rfl rfl ((H3.out.1.alloc _).only hO4 (by have:=H3.out.1.lt;omega)) _ rfl underlying220 fS) ?_)
    | (refine qU rfl (Ub d2 d _ _ _ (.tmp 22) (.tmp 23) rfl rfl rfl) ?_))
   all_goals (go_ret; refine ⟨⟨_, rfl, ?_⟩, hO4.toBelow (H3.out.2.1.alloc H3.out.2.1.size _) (by have := H3.out.2.1.size; simp; omega) H3.out.2.1.size⟩; refine ⟨?_, by decide⟩; rw [H3.out.2.2]; simp_all)
  ·go_wp2_with (first
    | (refine cM rfl 220 (.tmp 3) (.tmp 17) rfl (qH.new #[.int .u8 0,.string ⟨#[]⟩,.string ⟨#[]⟩,.int .i64 0,.bool false] 220 w3) d2.cells rfl rfl fS rfl (jE d2) ?_;intro w4 hB4 hO4 hs4))
   go_ret
   refine ⟨⟨_,rfl,?_⟩,hO4.toBelow (H3.out.2.1.alloc H3.out.2.1.size _) (by have:=H3.out.2.1.size;simp;omega) H3.out.2.1.size⟩
   refine ⟨?_,by decide⟩
   rw [H3.out.2.2];simp_all
 ·have hbf:Hid (b=decide ((140:Int)=0)):=aEb (by
   rw [<- hb.out]
   unfold lN
   by_cases h1:1<=d.kind
   ·have:¬ d.kind<=6:=fun h=>hk ⟨h1,h⟩
    simp [this]
   ·simp [h1])
  by_cases h1:d.kind<1
  ·go_wp2
   go_ret
   exact ⟨⟨140,rfl,hbf.out,.inr rfl⟩,HB1.out.2⟩
  ·have h6:6<d.kind:=by omega
   go_wp2
   go_ret
   exact ⟨⟨140,rfl,hbf.out,.inr rfl⟩,HB1.out.2⟩
set_option maxRecDepth 100000 in
set_option maxHeartbeats 1600000 in
theorem Qe (W:Nat->ByteArray) (d:dN) (w:World) (hE:rI W w) (hf:fD W d) (b:Bool) (hb:Hid (lN W d=b)):
  Calls prog 147 #[.agg d.cells] w fun e w'=>(∃ n:Int,e=.returned (.tuple #[.string (if b=true then ⟨(oL W d).toArray⟩ else ⟨#[]⟩),zi n])/\b=decide (n=0))/\Below w.heap.size w w':=by
 have HB1:=aEb (And.intro (qH.new d.cells 220 w) ((aDt w.heap.size w).alloc (aDl _) (.cells d.cells 220)))
 have HE:=aEb hE
 have HF:=aEb hf
 clear hE hf
 go_enter func147, ntmps147
 have HC:=Dv W d (w.alloc (.cells d.cells 220)) (HE.out.below HB1.out.2) HF.out b hb
 unfold dN.cells at HC ⊢
 go_wp2_with fail
 with_reducible refine HC.mono ?_
 rintro e w2 ⟨⟨n,rfl,hbn,_⟩,hb2⟩
 clear HC
 have hB2:qH w.heap.size d.cells 220 w2:=HB1.out.1.below hb2
 have hbw:Below w.heap.size w w2:=aDu HB1.out.2 hb2
 have H2:=aEb (And.intro hB2 hbw)
 clear hB2 hbw hb2
 have HBN:=aEb hbn
 by_cases hn:n=0
 ·subst hn
  have hbt:b=true:=by rw [hbn];rfl
  clear hbn
  subst hbt
  have hk:1<=d.kind/\d.kind<=6:=by
   have:=hb.out
   unfold lN at this
   simp at this
   exact this.1
  have HT:=Ke W d w2 hk (HE.out.below H2.out.2).words HF.out.lo HF.out.hi (HE.out.below H2.out.2).pow (HE.out.below H2.out.2).units HF.out.name HF.out.pool (by have:=AX W d HF.out hk;omega)
  go_wp2_with (refine qU rfl (qY _ _ (.tmp 1) 220 rfl rfl H2.out.1 _ rfl underlying220 fS) ?_)
  with_reducible refine HT.mono ?_
  rintro e w3 ⟨rfl,hb3⟩
  have H3:=aEb (aDu H2.out.2 hb3)
  clear hb3 HT
  go_wp2
  go_ret2
  exact ⟨rfl,H3.out⟩
 ·have hbt:b=false:=by rw [hbn];simp [hn]
  clear hbn
  subst hbt
  go_wp2
  go_ret2
  exact ⟨⟨n,rfl,hn⟩,H2.out.2⟩
end
section
open Go.Proofs.Tryz
open Go.RowKit Go.Maps
def nT (l:List ByteArray) (i:Nat):Bool:=dK (l.getD i ByteArray.empty).data.toList&&!Lib.containsS (l.take i) (l.getD i ByteArray.empty)
def iR (l:List ByteArray):Bool:=(List.range l.length).all (nT l)&&decide (l.length<=4)
theorem Ay (w) (g o n c k:Nat) (l:List ByteArray) (x) (hr:w.rangeAt g o (sv l)) (hn:n=l.length) (hk:k<=n) (hk2:k<=9223372036854775807) (b:Bool) (hb:Hid (Lib.containsS (l.take k) x=b)):
  Calls prog 189 #[.slice (some ⟨g,o,none⟩) k c,.string x] w fun e w'=>e=.returned (.bool b)/\w'=w:=by
 have h:=slices_Contains_string g o k c l x w (by omega) hk2 (fun j hj=>by
  have:=hr j (.string (l.getD j ByteArray.empty)) (by simp [sv,List.getD_eq_getElem?_getD,hj])
  exact this)
 rw [hb.out] at h
 exact h
theorem Rd.slice (h:Rd sz w v n c xs):∃ b,v=.slice b n c:=by
 obtain ⟨_,_,_,⟨e,e1,e2⟩ | ⟨g,o,e,_⟩⟩:=h
 ·subst e1 e2;exact ⟨_,e⟩
 ·exact ⟨_,e⟩
theorem Rd.some (h:Rd sz w (.slice b n c) n c xs) (hn:0<n):∃ g o,b=.some ⟨g,o,none⟩/\g<w.heap.size/\w.rangeAt g o xs:=by
 obtain ⟨_,_,_,⟨e,e1,e2⟩ | ⟨g,o,e,h1,h2⟩⟩:=h
 ·omega
 ·cases e;exact ⟨g,o,rfl,h1,h2⟩
theorem Js {l:List ByteArray} (hk:k<l.length) (h:(List.range k).all (nT l)=true) (h2:nT l k=true):(List.range (k+1)).all (nT l)=true:=by
 rw [List.range_succ,aCs,h]
 simp [h2]
theorem Do {l:List ByteArray} (hk:k<l.length) (h2:nT l k=false):iR l=false:=by
 have:(List.range l.length).all (nT l)=false:=by
  rw [List.all_eq_false]
  exact ⟨k,by simpa using hk,by simp [h2]⟩
 unfold iR
 rw [this];rfl
set_option maxRecDepth 100000 in
set_option maxHeartbeats 1600000 in
theorem Am (v:Value) (n c:Nat) (l:List ByteArray) (w:World) (hr:Rd 1 w v n c (sv l)) (hl:l.length<=4611686018427387904) (hs:∀ x∈l,x.size<=140737488351232) (b:Bool) (hb:Hid (iR l=b)):
  Calls prog 191 #[v] w fun e w'=>e=.returned (.bool b)/\Below w.heap.size w w':=by
 have hn:n=l.length:=by have:=hr.1;simpa [sv] using this.symm
 have HR:=aEb hr
 have HS:=aEb hs
 clear hr hs
 obtain ⟨vb,rfl⟩:=HR.out.slice
 have hl2:n<=4611686018427387904:=by omega
 have hnc:n<=c:=HR.out.2.1
 have hcm:c<=9223372036854775807:=HR.out.2.2.1
 have HL:=aEb hn
 clear hn
 go_enter func191, ntmps191
 go_wp2
 go_loopw [3, 4, 7] (fun _ _ i wr => ∃ k : Nat, i = .int .i64 k /\ k <= n /\ (List.range k).all (nT l) = true /\ Below w.heap.size w wr) (fun _ _ i _ => n - (intOf i).toNat)
 case atStart=>exact ⟨0,rfl,aDm _,rfl,aDt _ _⟩
 case round=>
  obtain ⟨k,rfl,hkn,hall,hbl⟩:=hrel
  by_cases hlt:k<n
  ·obtain ⟨g,o,rfl,hg,hr⟩:=HR.out.some (by omega)
   have hkl:k<l.length:=by have:=HL.out;omega
   have hcell:wr.cell? ⟨g,o+k,none⟩=some (.string (l.getD k ByteArray.empty)):=(hbl.cell (p:=⟨g,o+k,none⟩) hg).trans (hr k _ (by simp [sv,List.getD_eq_getElem?_getD,hkl]))
   have hra:∀ w',Below w.heap.size w w'->w'.rangeAt g o (sv l):=fun w' h j u hu=>(h.cell (p:=⟨g,o+j,none⟩) hg).trans (hr j u hu)
   have hsz:(l.getD k ByteArray.empty).size<=140737488351232:=HS.out _ (by rw [List.getD_eq_getElem?_getD,List.getElem?_eq_getElem hkl];exact aBz hkl)
   have HA:Hid (nT l k=(dK (l.getD k ByteArray.empty).data.toList&&!Lib.containsS (l.take k) (l.getD k ByteArray.empty))):=aEb rfl
   have HH:=aEb (And.intro hall (And.intro hbl (And.intro hra hkl)))
   clear hall hbl hra hkl hr
   generalize l.getD k ByteArray.empty=x at *
   go_wp2_with fail
   with_reducible refine (lO x _ hsz).mono ?_
   rintro e w2 ⟨rfl,hb2⟩
   have HB2:=aEb (aDu HH.out.2.1 hb2)
   clear hb2
   cases hnm:dK x.data.toList
   ·have HP:Hid (iR l=false):=aEb (Do HH.out.2.2.2 (by rw [HA.out,hnm];rfl))
    clear hnm
    go_wp2
    go_ret
    exact ⟨by rw [<- hb.out,HP.out];rfl,HB2.out⟩
   ·obtain ⟨cb,hcb⟩:∃ cb,Lib.containsS (l.take k) x=cb:=⟨_,rfl⟩
    have HCB:=aEb hcb
    have HNM:=aEb hnm
    have hL:=HL.out
    have hrr:=HH.out.2.2.1 w2 HB2.out
    have HRR:=aEb (And.intro hL hrr)
    clear hcb hnm hL hrr
    go_wp2_with fail
    with_reducible refine (Ay w2 g o n c k l x HRR.out.2 HRR.out.1 hkn (by omega) cb HCB).mono ?_
    rintro e w3 ⟨rfl,rfl⟩
    cases cb
    ·go_wp2
     go_roundw
     case rel => exact ⟨k + 1, by go_num, by omega, Js HH.out.2.2.2 HH.out.1 (by rw [HA.out, HNM.out, HCB.out]; rfl), HB2.out⟩
     case measure=>simp [intOf];omega
    ·have HP:Hid (iR l=false):=aEb (Do HH.out.2.2.2 (by rw [HA.out,HNM.out,HCB.out];rfl))
     go_wp2
     go_ret
     exact ⟨by rw [<- hb.out,HP.out];rfl,HB2.out⟩
  ·obtain rfl:k=n:=by omega
   have HP:Hid (decide (k<=4)=b):=aEb (by rw [<- hb.out];unfold iR;rw [<- HL.out,hall];rfl)
   have HB:=aEb hbl
   clear hall hbl hb
   go_wp2
   go_ret
   refine ⟨?_,HB.out⟩
   rw [<- HP.out]
   simp
   omega
end
section
open Go.Proofs.Tryz
open Go.RowKit Go.Maps
structure eW where
 user:ByteArray
 nodes:Int
 wall:Int
 qos:Int
 after:List (Int × Bool)
 cap:Int
 inn:Int
 out:Int
 pool:ByteArray
 make:List dN
 drop:List ByteArray
 use:List ByteArray
def nD (p:Int × Bool):List Value:=[zi p.1,.bool p.2]
def fZ (d:dN):List Value:=d.cells.toList
theorem wW (p:Int × Bool):(nD p).length=2:=rfl
theorem fQ (d):(fZ d).length=5:=rfl
def eW.cells (x:eW) (va vm vd vu:Value):Array Value:=
 #[.string x.user,zi x.nodes,zi x.wall,zi x.qos,va,zi x.cap,zi x.inn,zi x.out,.string x.pool,vm,vd,vu]
structure IA (x:eW) (va vm vd vu:Value) (w:World):Prop where
 after:∃ c,Rd 2 w va x.after.length c (x.after.flatMap nD)
 make:∃ c,Rd 5 w vm x.make.length c (x.make.flatMap fZ)
 drop:∃ c,Rd 1 w vd x.drop.length c (sv x.drop)
 use:∃ c,Rd 1 w vu x.use.length c (sv x.use)
theorem IA.below {x:eW} (h:IA x va vm vd vu w) (k:Below w.heap.size w w'):IA x va vm vd vu w':=
 ⟨let ⟨c,h1⟩:=h.after;⟨c,h1.below k⟩,let ⟨c,h1⟩:=h.make;⟨c,h1.below k⟩,let ⟨c,h1⟩:=h.drop;⟨c,h1.below k⟩,let ⟨c,h1⟩:=h.use;⟨c,h1.below k⟩⟩
def cV (n a b:Int):Bool:=decide (a<=n)&&decide (n<=b)
theorem mI (n a b:Int) (w):Calls prog 187 #[zi n,zi a,zi b] w fun e w'=>e=.returned (.bool (cV n a b))/\w'=w:=by
 go_enter func187, ntmps187
 by_cases h1:a<=n
 ·go_wp2
  go_ret
  exact ⟨by unfold cV;simp [h1],rfl⟩
 ·go_wp2
  go_ret
  exact ⟨by unfold cV;simp;omega,rfl⟩
theorem SU (o d:Int × Bool) (b) (w) (hb:w.cell? ⟨b,0,none⟩=some (zi d.1)):
  Calls prog 190 #[.agg (nD o).toArray,.pointer (some ⟨b,0,none⟩)] w fun e w'=>e=.returned (.bool (decide (o.1=d.1)))/\Below w.heap.size w w':=by
 have c0:(w.alloc (.cells (nD o).toArray 245)).cell? ⟨w.heap.size,0,none⟩=some (zi o.1):=kE w _ _ _ rfl
 have c1:(w.alloc (.cells (nD o).toArray 245)).cell? ⟨b,0,none⟩=some (zi d.1):=xK hb
 have HB:=aEb ((aDt w.heap.size w).alloc (aDl _) (.cells (nD o).toArray 245))
 unfold nD at *
 go_enter func190, ntmps190
 go_wp2
 go_ret
 exact ⟨by congr 1,HB.out⟩
end
def jO (n:Int):Prop:=-9223372036854775808<=n/\n<=9223372036854775807
def geS (s u:ByteArray):Bool:=!Op.bytesLess s.toList u.toList
def cA (n:Int) (b:Bool):Int:=if b=true then 0 else n
theorem uH {n:Int} {b:Bool} (h:b=true):cA n b=0:=by subst h;rfl
theorem oH {n:Int} {b:Bool} (h:b=false):cA n b=n:=by subst h;rfl
structure dQ where
 user:ByteArray
 use:Int
 deriving Inhabited
def dQ.cells (x:dQ):List Value:=[.string x.user,zi x.use]
theorem dQ.len (x:dQ):x.cells.length=2:=rfl
structure dQ.Fit (x:dQ):Prop where
 user:x.user.size<=1000000
 use:jO x.use
structure eL where
 job:Int
 out:Bool
 size:Int
 done:Int
 tries:Int
 wait:Int
 deriving Inhabited
def eL.cells (x:eL):List Value:=[zi x.job,.bool x.out,zi x.size,zi x.done,zi x.tries,zi x.wait]
theorem eL.len (x:eL):x.cells.length=6:=rfl
structure eL.Fit (x:eL):Prop where
 job:jO x.job
 size:jO x.size
 done:jO x.done
 tries:jO x.tries
 wait:jO x.wait
structure cN where
 up:Bool
 opn:Bool
 job:Int
 deriving Inhabited
def cN.cells (x:cN):List Value:=[.bool x.up,.bool x.opn,zi x.job]
theorem cN.len (x:cN):x.cells.length=3:=rfl
structure cN.Fit (x:cN):Prop where
 job:jO x.job
structure aK where
 at_:Int
 len:Int
 deriving Inhabited,DecidableEq
def aK.cells (x:aK):List Value:=[zi x.at_,zi x.len]
theorem aK.clen (x:aK):x.cells.length=2:=rfl
structure aK.Fit (x:aK):Prop where
 at_:jO x.at_
 len:jO x.len
structure jC where
 user:ByteArray
 n:Int
 deriving Inhabited
def jC.cells (x:jC):List Value:=[.string x.user,zi x.n]
theorem jC.len (x:jC):x.cells.length=2:=rfl
structure jC.Fit (x:jC):Prop where
 user:x.user.size<=1000000
 n:jO x.n
structure eY where
 name:ByteArray
 size:Int
 grain:Int
 quota:Int
 best:Bool
 deriving Inhabited
def eY.cells (x:eY):List Value:=[.string x.name,zi x.size,zi x.grain,zi x.quota,.bool x.best]
theorem eY.len (x:eY):x.cells.length=5:=rfl
structure eY.Fit (x:eY):Prop where
 name:x.name.size<=1000000
 size:jO x.size
 grain:jO x.grain
 quota:jO x.quota
structure lQ where
 job:Int
 pool:Int
 s1:Int
 s2:Int
 s3:Int
 s4:Int
 s5:Int
 s6:Int
 t1:Int
 t2:Int
 t3:Int
 deriving Inhabited
def lQ.cells (x:lQ):List Value:=[zi x.job,zi x.pool,zi x.s1,zi x.s2,zi x.s3,zi x.s4,zi x.s5,zi x.s6,zi x.t1,zi x.t2,zi x.t3]
theorem lQ.len (x:lQ):x.cells.length=11:=rfl
structure bW where
 size:Int
 grain:Int
 quota:Int
 drain:Bool
 best:Bool
 fb:Option Addr
 fc:Nat
 free:List aK
 ub:Option Addr
 uc:Nat
 uses:List jC
 deriving Inhabited
def bW.cells (x:bW):List Value:=[zi x.size,zi x.grain,zi x.quota,.bool x.drain,.bool x.best,.slice x.fb x.free.length x.fc,.slice x.ub x.uses.length x.uc]
theorem bW.len (x:bW):x.cells.length=7:=rfl
structure bW.At (x:bW) (w:World):Prop where
 free:Rd 2 w (.slice x.fb x.free.length x.fc) x.free.length x.fc (x.free.flatMap aK.cells)
 uses:Rd 2 w (.slice x.ub x.uses.length x.uc) x.uses.length x.uc (x.uses.flatMap jC.cells)
structure bW.Fit (x:bW):Prop where
 size:jO x.size
 grain:jO x.grain
 quota:jO x.quota
 free:∀ e∈x.free,e.Fit
 uses:∀ u∈x.uses,u.Fit
 freeN:x.free.length<=1000000
 usesN:x.uses.length<=1000000
structure dI where
 job:Int
 name:ByteArray
 user:ByteArray
 pool:ByteArray
 opn:Bool
 eb:Option Addr
 ec:Nat
 exts:List aK
 rb:Option Addr
 rc:Nat
 refs:List Int
 deriving Inhabited
def dI.cells (x:dI):List Value:=[zi x.job,.string x.name,.string x.user,.string x.pool,.bool x.opn,.slice x.eb x.exts.length x.ec,.slice x.rb x.refs.length x.rc]
theorem dI.len (x:dI):x.cells.length=7:=rfl
structure dI.At (x:dI) (w:World):Prop where
 exts:Rd 2 w (.slice x.eb x.exts.length x.ec) x.exts.length x.ec (x.exts.flatMap aK.cells)
 refs:Rd 1 w (.slice x.rb x.refs.length x.rc) x.refs.length x.rc (x.refs.flatMap gI)
structure dI.Fit (x:dI):Prop where
 job:jO x.job
 name:x.name.size<=1000000
 user:x.user.size<=1000000
 pool:x.pool.size<=1000000
 exts:∀ e∈x.exts,e.Fit
 refs:∀ n∈x.refs,jO n
 extsN:x.exts.length<=1000000
 refsN:x.refs.length<=1000000
structure bS where
 c:eW
 ab:Option Addr
 ac:Nat
 mb:Option Addr
 mc:Nat
 db:Option Addr
 dc:Nat
 ub:Option Addr
 uc:Nat
def bS.va (x:bS):Value:=.slice x.ab x.c.after.length x.ac
def bS.vm (x:bS):Value:=.slice x.mb x.c.make.length x.mc
def bS.vd (x:bS):Value:=.slice x.db x.c.drop.length x.dc
def bS.vu (x:bS):Value:=.slice x.ub x.c.use.length x.uc
def bS.cells (x:bS):List Value:=[.string x.c.user,zi x.c.nodes,zi x.c.wall,zi x.c.qos,.slice x.ab x.c.after.length x.ac,zi x.c.cap,zi x.c.inn,zi x.c.out,.string x.c.pool,.slice x.mb x.c.make.length x.mc,.slice x.db x.c.drop.length x.dc,.slice x.ub x.c.use.length x.uc]
theorem bS.len (x:bS):x.cells.length=12:=rfl
structure bS.At (x:bS) (w:World):Prop where
 after:Rd 2 w (.slice x.ab x.c.after.length x.ac) x.c.after.length x.ac (x.c.after.flatMap nD)
 make:Rd 5 w (.slice x.mb x.c.make.length x.mc) x.c.make.length x.mc (x.c.make.flatMap fZ)
 drop:Rd 1 w (.slice x.db x.c.drop.length x.dc) x.c.drop.length x.dc (sv x.c.drop)
 use:Rd 1 w (.slice x.ub x.c.use.length x.uc) x.c.use.length x.uc (sv x.c.use)
structure dH where
 id:Int
 slip:bS
 phase:Nat
 good:Bool
 hold:Bool
 inc:Int
 at_:Int
 ran:Int
def dH.cells (x:dH):List Value:=[zi x.id,.string x.slip.c.user,zi x.slip.c.nodes,zi x.slip.c.wall,zi x.slip.c.qos,.slice x.slip.ab x.slip.c.after.length x.slip.ac,zi x.slip.c.cap,zi x.slip.c.inn,zi x.slip.c.out,.string x.slip.c.pool,.slice x.slip.mb x.slip.c.make.length x.slip.mc,.slice x.slip.db x.slip.c.drop.length x.slip.dc,.slice x.slip.ub x.slip.c.use.length x.slip.uc,.int .u8 (x.phase:Int),.bool x.good,.bool x.hold,zi x.inc,zi x.at_,zi x.ran]
theorem dH.len (x:dH):x.cells.length=19:=rfl
theorem RB {P:Nat->Bool} (h:(List.range k).all P=true) (h2:P k=true):(List.range (k+1)).all P=true:=by
 rw [List.range_succ,aCs,h];simpa using h2
theorem IV {P:Nat->Bool} (hk:k<n) (h:P k=false):(List.range n).all P=false:=by
 cases hc:(List.range n).all P with
 | false=>rfl
 | true=>rw [aB1.1 hc k (aCw.2 hk)] at h;cases h
theorem iE {α:Type} [Inhabited α] {l:List α} {k:Nat} (hk:k<l.length):l[k]! = l[k]:=by simp [hk]
theorem Ej {α:Type} [Inhabited α] {bad:α->α->Nat->Bool} {l:List α} (hk:k<l.length) (hP:(List.range k).all (fun k=>!bad (l[k - 1]!) (l[k]!) k)=true) (h:bad (l[k - 1]'(aBg (aDv _ _) hk)) l[k] k=false):(List.range (k+1)).all (fun k=>!bad (l[k - 1]!) (l[k]!) k)=true:=
 RB hP (by show (!bad (l[k - 1]!) (l[k]!) k)=true;rw [iE hk,iE (aBg (aDv _ _) hk),h];rfl)
theorem Bd {α:Type} [Inhabited α] {bad:α->α->Nat->Bool} {l:List α} {t:Bool} (hk:k<l.length) (h:bad (l[k - 1]'(aBg (aDv _ _) hk)) l[k] k=true):((List.range l.length).all (fun k=>!bad (l[k - 1]!) (l[k]!) k)&&t)=false:=by
 rw [IV hk (by show (!bad (l[k - 1]!) (l[k]!) k)=false;rw [iE hk,iE (aBg (aDv _ _) hk),h];rfl)];rfl
theorem Fq {α:Type} {l:List α} {t:Bool} {m:Nat} (h:decide ((m:Int)<(l.length:Int))=true):(t&&decide (l.length<=m))=false:=by
 have:=aBp h
 rw [show decide (l.length<=m)=false from decide_eq_false (by omega),Bool.and_false]
theorem Eg {α:Type} {l:List α} {t:Bool} {m:Nat} (hP:t=true) (h:decide ((m:Int)<(l.length:Int))=false):(t&&decide (l.length<=m))=true:=by
 have:=aBe h
 rw [hP,show decide (l.length<=m)=true from decide_eq_true (by omega)];rfl
theorem Lp (f) (caps:List Value) (p:bW->Bool) (b) (c) (l:List bW) (w) (ef:EN f) (hN:l.length<9223372036854775807) (hv:Rd 7 w (.slice b l.length c) l.length c (l.flatMap bW.cells)) (hp:∀ W x,Below w.heap.size w W->x∈l->cT f ([.agg (bW.cells x).toArray]++caps) W fun v _=>v=.bool (p x)):cT 112 [.slice b l.length c,.func (.func f) #[] caps.toArray] w fun v _=>v=zi (gG p l):=by
 refine aJ (args:=[.slice b l.length c,.func (.func f) #[] caps.toArray]) func112 rfl ntmps112 (aA1 rfl) (rg (bU (nx (aF (rg (aN (.slice b l.length c) rfl (sq (aY underlying34 rfl) (rU (nx ?_)))))))))
 refine bD (fun k g W=>g 8=zi ((k:Nat):Int)/\g 7=zi (((l.length:Nat)):Int)/\g 0=.slice b l.length c/\g 1=.func (.func f) #[] (caps).toArray/\g 4=zi (0)/\Below w.heap.size w W/\((l.take k).any p=false)) l.length hN (fun _ _ _ h=>⟨h.1,h.2.1⟩) ⟨rfl,rfl,rfl,rfl,rfl,aDt _ _,rfl⟩ rfl rfl (fun _ _ _ _ h=>h) ?_ ?_
 ·
  rintro k g1 w1 hk ⟨s8,s7,s0,s1,s4,b1,hP⟩
  obtain ⟨g,o,rfl,hg,hr⟩:=aD5 hv (aBg (aDm _) hk)
  refine rg (bI s8 (aW (zi (k:Nat)) rfl (nx (rg (bI s1 (bI s0 (aN (zi (k:Nat)) rfl (sq (bB underlying34 sizeOf70 rfl rfl hk) (sq (ML rfl (cQ bW.cells 7 bW.len hr hg b1 hk) rfl) (RC (caps:=caps) ef rfl (ac (a1 rfl)) (hp _ _ b1 (aBz hk)) ?_))))))))))
  rintro _ w2 k2 rfl
  have b3:=aDu b1 k2
  refine nx ?_
  refine cd rfl (fun c4=>?_) (fun c4=>?_)
  ·
   refine rg (aN (zi (k:Nat)) rfl (aW (zi (k:Nat)) rfl (nx (aE ?_))))
   refine bT (R:=fun v _=>v=zi (gG p l)) rfl b3 (aD6 (b:=(zi (k:Nat):Value)) rfl ?_)
   rw [lP hk hP c4]
  ·
   exact aG (dO ⟨⟨rfl,s7,s0,s1,s4,b3,rH hk hP c4⟩,s8⟩)
 ·
  rintro g5 w5 ⟨s8,s7,s0,s1,s4,b5,hP⟩
  refine rg (aW (zi (-1)) rfl (nx (aE ?_)))
  refine bT (R:=fun v _=>v=zi (gG p l)) rfl b5 (aD6 (b:=(zi (-1):Value)) rfl ?_)
  rw [mR (by rw [<- aCb (l:=l)];exact hP)]
theorem Xd (f) (caps:List Value) (p:bW->Bool) (b) (c) (l:List bW) (w) (ef:EN f) (hN:l.length<9223372036854775807) (hv:Rd 7 w (.slice b l.length c) l.length c (l.flatMap bW.cells)) (hp:∀ W x,Below w.heap.size w W->x∈l->cT f ([.agg (bW.cells x).toArray]++caps) W fun v _=>v=.bool (p x)):cT 35 [.slice b l.length c,.func (.func f) #[] caps.toArray] w fun v _=>v=.bool (l.any p):=by
 refine aJ (args:=[.slice b l.length c,.func (.func f) #[] caps.toArray]) func35 rfl ntmps35 (aA1 rfl) (rg (bU (nx (rg (aN (.slice b l.length c) rfl (aN (.func (.func f) #[] (caps).toArray) rfl (cE en112 (a2 rfl rfl) (Lp f caps p b c l _ ef hN (hv.below (aDt _ _)) (fun W x hW hx=>hp W x (aDu (aDt _ _) hW) hx)) ?_)))))))
 rintro _ w1 k1 rfl
 refine sq (nU rfl rfl) (aW (.bool (decide ((0:Int)<=(gG p l:Int)))) rfl (nx (aE ?_)))
 refine bT (R:=fun v _=>v=.bool (l.any p)) rfl k1 (aD6 (b:=(.bool (decide ((0:Int)<=(gG p l:Int))):Value)) rfl ?_)
 rw [Af]
theorem MP (f) (caps:List Value) (p:cN->Bool) (b) (c) (l:List cN) (w) (ef:EN f) (hN:l.length<9223372036854775807) (hv:Rd 3 w (.slice b l.length c) l.length c (l.flatMap cN.cells)) (hp:∀ W x,Below w.heap.size w W->x∈l->cT f ([.agg (cN.cells x).toArray]++caps) W fun v _=>v=.bool (p x)):cT 166 [.slice b l.length c,.func (.func f) #[] caps.toArray] w fun v _=>v=zi (gG p l):=by
 refine aJ (args:=[.slice b l.length c,.func (.func f) #[] caps.toArray]) func166 rfl ntmps166 (aA1 rfl) (rg (bU (nx (aF (rg (aN (.slice b l.length c) rfl (sq (aY underlying36 rfl) (rU (nx ?_)))))))))
 refine bD (fun k g W=>g 8=zi ((k:Nat):Int)/\g 7=zi (((l.length:Nat)):Int)/\g 0=.slice b l.length c/\g 1=.func (.func f) #[] (caps).toArray/\g 4=zi (0)/\Below w.heap.size w W/\((l.take k).any p=false)) l.length hN (fun _ _ _ h=>⟨h.1,h.2.1⟩) ⟨rfl,rfl,rfl,rfl,rfl,aDt _ _,rfl⟩ rfl rfl (fun _ _ _ _ h=>h) ?_ ?_
 ·
  rintro k g1 w1 hk ⟨s8,s7,s0,s1,s4,b1,hP⟩
  obtain ⟨g,o,rfl,hg,hr⟩:=aD5 hv (aBg (aDm _) hk)
  refine rg (bI s8 (aW (zi (k:Nat)) rfl (nx (rg (bI s1 (bI s0 (aN (zi (k:Nat)) rfl (sq (bB underlying36 sizeOf128 rfl rfl hk) (sq (Ku rfl (cQ cN.cells 3 cN.len hr hg b1 hk) rfl) (RC (caps:=caps) ef rfl (ac (a1 rfl)) (hp _ _ b1 (aBz hk)) ?_))))))))))
  rintro _ w2 k2 rfl
  have b3:=aDu b1 k2
  refine nx ?_
  refine cd rfl (fun c4=>?_) (fun c4=>?_)
  ·
   refine rg (aN (zi (k:Nat)) rfl (aW (zi (k:Nat)) rfl (nx (aE ?_))))
   refine bT (R:=fun v _=>v=zi (gG p l)) rfl b3 (aD6 (b:=(zi (k:Nat):Value)) rfl ?_)
   rw [lP hk hP c4]
  ·
   exact aG (dO ⟨⟨rfl,s7,s0,s1,s4,b3,rH hk hP c4⟩,s8⟩)
 ·
  rintro g5 w5 ⟨s8,s7,s0,s1,s4,b5,hP⟩
  refine rg (aW (zi (-1)) rfl (nx (aE ?_)))
  refine bT (R:=fun v _=>v=zi (gG p l)) rfl b5 (aD6 (b:=(zi (-1):Value)) rfl ?_)
  rw [mR (by rw [<- aCb (l:=l)];exact hP)]
theorem SY (f) (caps:List Value) (p:cN->Bool) (b) (c) (l:List cN) (w) (ef:EN f) (hN:l.length<9223372036854775807) (hv:Rd 3 w (.slice b l.length c) l.length c (l.flatMap cN.cells)) (hp:∀ W x,Below w.heap.size w W->x∈l->cT f ([.agg (cN.cells x).toArray]++caps) W fun v _=>v=.bool (p x)):cT 109 [.slice b l.length c,.func (.func f) #[] caps.toArray] w fun v _=>v=.bool (l.any p):=by
 refine aJ (args:=[.slice b l.length c,.func (.func f) #[] caps.toArray]) func109 rfl ntmps109 (aA1 rfl) (rg (bU (nx (rg (aN (.slice b l.length c) rfl (aN (.func (.func f) #[] (caps).toArray) rfl (cE en166 (a2 rfl rfl) (MP f caps p b c l _ ef hN (hv.below (aDt _ _)) (fun W x hW hx=>hp W x (aDu (aDt _ _) hW) hx)) ?_)))))))
 rintro _ w1 k1 rfl
 refine sq (nU rfl rfl) (aW (.bool (decide ((0:Int)<=(gG p l:Int)))) rfl (nx (aE ?_)))
 refine bT (R:=fun v _=>v=.bool (l.any p)) rfl k1 (aD6 (b:=(.bool (decide ((0:Int)<=(gG p l:Int))):Value)) rfl ?_)
 rw [Af]
theorem LX (f) (caps:List Value) (p:(Int × Bool)->Bool) (b) (c) (l:List (Int × Bool)) (w) (ef:EN f) (hN:l.length<9223372036854775807) (hv:Rd 2 w (.slice b l.length c) l.length c (l.flatMap nD)) (hp:∀ W x,Below w.heap.size w W->x∈l->cT f ([.agg (nD x).toArray]++caps) W fun v _=>v=.bool (p x)):cT 202 [.slice b l.length c,.func (.func f) #[] caps.toArray] w fun v _=>v=zi (gG p l):=by
 refine aJ (args:=[.slice b l.length c,.func (.func f) #[] caps.toArray]) func202 rfl ntmps202 (aA1 rfl) (rg (bU (nx (aF (rg (aN (.slice b l.length c) rfl (sq (aY underlying93 rfl) (rU (nx ?_)))))))))
 refine bD (fun k g W=>g 8=zi ((k:Nat):Int)/\g 7=zi (((l.length:Nat)):Int)/\g 0=.slice b l.length c/\g 1=.func (.func f) #[] (caps).toArray/\g 4=zi (0)/\Below w.heap.size w W/\((l.take k).any p=false)) l.length hN (fun _ _ _ h=>⟨h.1,h.2.1⟩) ⟨rfl,rfl,rfl,rfl,rfl,aDt _ _,rfl⟩ rfl rfl (fun _ _ _ _ h=>h) ?_ ?_
 ·
  rintro k g1 w1 hk ⟨s8,s7,s0,s1,s4,b1,hP⟩
  obtain ⟨g,o,rfl,hg,hr⟩:=aD5 hv (aBg (aDm _) hk)
  refine rg (bI s8 (aW (zi (k:Nat)) rfl (nx (rg (bI s1 (bI s0 (aN (zi (k:Nat)) rfl (sq (bB underlying93 sizeOf245 rfl rfl hk) (sq (Ro rfl (cQ nD 2 wW hr hg b1 hk) rfl) (RC (caps:=caps) ef rfl (ac (a1 rfl)) (hp _ _ b1 (aBz hk)) ?_))))))))))
  rintro _ w2 k2 rfl
  have b3:=aDu b1 k2
  refine nx ?_
  refine cd rfl (fun c4=>?_) (fun c4=>?_)
  ·
   refine rg (aN (zi (k:Nat)) rfl (aW (zi (k:Nat)) rfl (nx (aE ?_))))
   refine bT (R:=fun v _=>v=zi (gG p l)) rfl b3 (aD6 (b:=(zi (k:Nat):Value)) rfl ?_)
   rw [lP hk hP c4]
  ·
   exact aG (dO ⟨⟨rfl,s7,s0,s1,s4,b3,rH hk hP c4⟩,s8⟩)
 ·
  rintro g5 w5 ⟨s8,s7,s0,s1,s4,b5,hP⟩
  refine rg (aW (zi (-1)) rfl (nx (aE ?_)))
  refine bT (R:=fun v _=>v=zi (gG p l)) rfl b5 (aD6 (b:=(zi (-1):Value)) rfl ?_)
  rw [mR (by rw [<- aCb (l:=l)];exact hP)]
theorem KD (f) (caps:List Value) (p:(Int × Bool)->Bool) (b) (c) (l:List (Int × Bool)) (w) (ef:EN f) (hN:l.length<9223372036854775807) (hv:Rd 2 w (.slice b l.length c) l.length c (l.flatMap nD)) (hp:∀ W x,Below w.heap.size w W->x∈l->cT f ([.agg (nD x).toArray]++caps) W fun v _=>v=.bool (p x)):cT 152 [.slice b l.length c,.func (.func f) #[] caps.toArray] w fun v _=>v=.bool (l.any p):=by
 refine aJ (args:=[.slice b l.length c,.func (.func f) #[] caps.toArray]) func152 rfl ntmps152 (aA1 rfl) (rg (bU (nx (rg (aN (.slice b l.length c) rfl (aN (.func (.func f) #[] (caps).toArray) rfl (cE YW (a2 rfl rfl) (LX f caps p b c l _ ef hN (hv.below (aDt _ _)) (fun W x hW hx=>hp W x (aDu (aDt _ _) hW) hx)) ?_)))))))
 rintro _ w1 k1 rfl
 refine sq (nU rfl rfl) (aW (.bool (decide ((0:Int)<=(gG p l:Int)))) rfl (nx (aE ?_)))
 refine bT (R:=fun v _=>v=.bool (l.any p)) rfl k1 (aD6 (b:=(.bool (decide ((0:Int)<=(gG p l:Int))):Value)) rfl ?_)
 rw [Af]
theorem MD (f) (caps:List Value) (p:dI->Bool) (b) (c) (l:List dI) (w) (ef:EN f) (hN:l.length<9223372036854775807) (hv:Rd 7 w (.slice b l.length c) l.length c (l.flatMap dI.cells)) (hp:∀ W x,Below w.heap.size w W->x∈l->cT f ([.agg (dI.cells x).toArray]++caps) W fun v _=>v=.bool (p x)):cT 211 [.slice b l.length c,.func (.func f) #[] caps.toArray] w fun v _=>v=zi (gG p l):=by
 refine aJ (args:=[.slice b l.length c,.func (.func f) #[] caps.toArray]) func211 rfl ntmps211 (aA1 rfl) (rg (bU (nx (aF (rg (aN (.slice b l.length c) rfl (sq (aY underlying33 rfl) (rU (nx ?_)))))))))
 refine bD (fun k g W=>g 8=zi ((k:Nat):Int)/\g 7=zi (((l.length:Nat)):Int)/\g 0=.slice b l.length c/\g 1=.func (.func f) #[] (caps).toArray/\g 4=zi (0)/\Below w.heap.size w W/\((l.take k).any p=false)) l.length hN (fun _ _ _ h=>⟨h.1,h.2.1⟩) ⟨rfl,rfl,rfl,rfl,rfl,aDt _ _,rfl⟩ rfl rfl (fun _ _ _ _ h=>h) ?_ ?_
 ·
  rintro k g1 w1 hk ⟨s8,s7,s0,s1,s4,b1,hP⟩
  obtain ⟨g,o,rfl,hg,hr⟩:=aD5 hv (aBg (aDm _) hk)
  refine rg (bI s8 (aW (zi (k:Nat)) rfl (nx (rg (bI s1 (bI s0 (aN (zi (k:Nat)) rfl (sq (bB underlying33 sizeOf109 rfl rfl hk) (sq (AB rfl (cQ dI.cells 7 dI.len hr hg b1 hk) rfl) (RC (caps:=caps) ef rfl (ac (a1 rfl)) (hp _ _ b1 (aBz hk)) ?_))))))))))
  rintro _ w2 k2 rfl
  have b3:=aDu b1 k2
  refine nx ?_
  refine cd rfl (fun c4=>?_) (fun c4=>?_)
  ·
   refine rg (aN (zi (k:Nat)) rfl (aW (zi (k:Nat)) rfl (nx (aE ?_))))
   refine bT (R:=fun v _=>v=zi (gG p l)) rfl b3 (aD6 (b:=(zi (k:Nat):Value)) rfl ?_)
   rw [lP hk hP c4]
  ·
   exact aG (dO ⟨⟨rfl,s7,s0,s1,s4,b3,rH hk hP c4⟩,s8⟩)
 ·
  rintro g5 w5 ⟨s8,s7,s0,s1,s4,b5,hP⟩
  refine rg (aW (zi (-1)) rfl (nx (aE ?_)))
  refine bT (R:=fun v _=>v=zi (gG p l)) rfl b5 (aD6 (b:=(zi (-1):Value)) rfl ?_)
  rw [mR (by rw [<- aCb (l:=l)];exact hP)]
theorem Tn (f) (caps:List Value) (p:dI->Bool) (b) (c) (l:List dI) (w) (ef:EN f) (hN:l.length<9223372036854775807) (hv:Rd 7 w (.slice b l.length c) l.length c (l.flatMap dI.cells)) (hp:∀ W x,Below w.heap.size w W->x∈l->cT f ([.agg (dI.cells x).toArray]++caps) W fun v _=>v=.bool (p x)):cT 162 [.slice b l.length c,.func (.func f) #[] caps.toArray] w fun v _=>v=.bool (l.any p):=by
 refine aJ (args:=[.slice b l.length c,.func (.func f) #[] caps.toArray]) func162 rfl ntmps162 (aA1 rfl) (rg (bU (nx (rg (aN (.slice b l.length c) rfl (aN (.func (.func f) #[] (caps).toArray) rfl (cE en211 (a2 rfl rfl) (MD f caps p b c l _ ef hN (hv.below (aDt _ _)) (fun W x hW hx=>hp W x (aDu (aDt _ _) hW) hx)) ?_)))))))
 rintro _ w1 k1 rfl
 refine sq (nU rfl rfl) (aW (.bool (decide ((0:Int)<=(gG p l:Int)))) rfl (nx (aE ?_)))
 refine bT (R:=fun v _=>v=.bool (l.any p)) rfl k1 (aD6 (b:=(.bool (decide ((0:Int)<=(gG p l:Int))):Value)) rfl ?_)
 rw [Af]
theorem ME (f) (caps:List Value) (p:aK->Bool) (b) (c) (l:List aK) (w) (ef:EN f) (hN:l.length<9223372036854775807) (hv:Rd 2 w (.slice b l.length c) l.length c (l.flatMap aK.cells)) (hp:∀ W x,Below w.heap.size w W->x∈l->cT f ([.agg (aK.cells x).toArray]++caps) W fun v _=>v=.bool (p x)):cT 217 [.slice b l.length c,.func (.func f) #[] caps.toArray] w fun v _=>v=zi (gG p l):=by
 refine aJ (args:=[.slice b l.length c,.func (.func f) #[] caps.toArray]) func217 rfl ntmps217 (aA1 rfl) (rg (bU (nx (aF (rg (aN (.slice b l.length c) rfl (sq (aY underlying67 rfl) (rU (nx ?_)))))))))
 refine bD (fun k g W=>g 8=zi ((k:Nat):Int)/\g 7=zi (((l.length:Nat)):Int)/\g 0=.slice b l.length c/\g 1=.func (.func f) #[] (caps).toArray/\g 4=zi (0)/\Below w.heap.size w W/\((l.take k).any p=false)) l.length hN (fun _ _ _ h=>⟨h.1,h.2.1⟩) ⟨rfl,rfl,rfl,rfl,rfl,aDt _ _,rfl⟩ rfl rfl (fun _ _ _ _ h=>h) ?_ ?_
 ·
  rintro k g1 w1 hk ⟨s8,s7,s0,s1,s4,b1,hP⟩
  obtain ⟨g,o,rfl,hg,hr⟩:=aD5 hv (aBg (aDm _) hk)
  refine rg (bI s8 (aW (zi (k:Nat)) rfl (nx (rg (bI s1 (bI s0 (aN (zi (k:Nat)) rfl (sq (bB underlying67 sizeOf112 rfl rfl hk) (sq (bQ rfl (cQ aK.cells 2 aK.clen hr hg b1 hk) rfl) (RC (caps:=caps) ef rfl (ac (a1 rfl)) (hp _ _ b1 (aBz hk)) ?_))))))))))
  rintro _ w2 k2 rfl
  have b3:=aDu b1 k2
  refine nx ?_
  refine cd rfl (fun c4=>?_) (fun c4=>?_)
  ·
   refine rg (aN (zi (k:Nat)) rfl (aW (zi (k:Nat)) rfl (nx (aE ?_))))
   refine bT (R:=fun v _=>v=zi (gG p l)) rfl b3 (aD6 (b:=(zi (k:Nat):Value)) rfl ?_)
   rw [lP hk hP c4]
  ·
   exact aG (dO ⟨⟨rfl,s7,s0,s1,s4,b3,rH hk hP c4⟩,s8⟩)
 ·
  rintro g5 w5 ⟨s8,s7,s0,s1,s4,b5,hP⟩
  refine rg (aW (zi (-1)) rfl (nx (aE ?_)))
  refine bT (R:=fun v _=>v=zi (gG p l)) rfl b5 (aD6 (b:=(zi (-1):Value)) rfl ?_)
  rw [mR (by rw [<- aCb (l:=l)];exact hP)]
theorem Uv (f) (caps:List Value) (p:aK->Bool) (b) (c) (l:List aK) (w) (ef:EN f) (hN:l.length<9223372036854775807) (hv:Rd 2 w (.slice b l.length c) l.length c (l.flatMap aK.cells)) (hp:∀ W x,Below w.heap.size w W->x∈l->cT f ([.agg (aK.cells x).toArray]++caps) W fun v _=>v=.bool (p x)):cT 170 [.slice b l.length c,.func (.func f) #[] caps.toArray] w fun v _=>v=.bool (l.any p):=by
 refine aJ (args:=[.slice b l.length c,.func (.func f) #[] caps.toArray]) func170 rfl ntmps170 (aA1 rfl) (rg (bU (nx (rg (aN (.slice b l.length c) rfl (aN (.func (.func f) #[] (caps).toArray) rfl (cE en217 (a2 rfl rfl) (ME f caps p b c l _ ef hN (hv.below (aDt _ _)) (fun W x hW hx=>hp W x (aDu (aDt _ _) hW) hx)) ?_)))))))
 rintro _ w1 k1 rfl
 refine sq (nU rfl rfl) (aW (.bool (decide ((0:Int)<=(gG p l:Int)))) rfl (nx (aE ?_)))
 refine bT (R:=fun v _=>v=.bool (l.any p)) rfl k1 (aD6 (b:=(.bool (decide ((0:Int)<=(gG p l:Int))):Value)) rfl ?_)
 rw [Af]
structure aZ where
 nodes:Int
 pb:Option Addr
 pc:Nat
 pools:List eY
 band:Int
 backoff:Int
 tries:Int
 rate:Int
 half:Int
 qos:Int
 age:Int
 old:Int
 size:Int
 use:Int
def aZ.cells (x:aZ):List Value:=[zi x.nodes,.slice x.pb x.pools.length x.pc,zi x.band,zi x.backoff,zi x.tries,zi x.rate,zi x.half,zi x.qos,zi x.age,zi x.old,zi x.size,zi x.use]
theorem aZ.len (x:aZ):x.cells.length=12:=rfl
def aZ.At (x:aZ) (w:World):Prop:=Rd 5 w (.slice x.pb x.pools.length x.pc) x.pools.length x.pc (x.pools.flatMap eY.cells)
structure aZ.Fit (x:aZ):Prop where
 nodes:jO x.nodes
 band:jO x.band
 backoff:jO x.backoff
 tries:jO x.tries
 rate:jO x.rate
 half:jO x.half
 qos:jO x.qos
 age:jO x.age
 old:jO x.old
 size:jO x.size
 use:jO x.use
 pools:∀ p∈x.pools,p.Fit
 poolsN:x.pools.length<=1000000
instance:Inhabited eW:=⟨⟨⟨#[]⟩,0,0,0,[],0,0,0,⟨#[]⟩,[],[],[]⟩⟩
instance:Inhabited bS:=⟨⟨default,none,0,none,0,none,0,none,0⟩⟩
instance:Inhabited dH:=⟨⟨0,default,0,false,false,0,0,0⟩⟩
structure aX where
 site:aZ
 now:Int
 next:Int
 jb:Option Addr
 jc:Nat
 jobs:List dH
 bb:Option Addr
 bc:Nat
 bufs:List dI
 pb:Option Addr
 pc:Nat
 pools:List bW
 mb:Option Addr
 mc:Nat
 moves:List eL
 nb:Option Addr
 nc:Nat
 nodes:List cN
 sb:Option Addr
 sc:Nat
 shares:List dQ
 rb:Option Addr
 rc:Nat
 rows:List lQ
 fb:Option Addr
 fc:Nat
 faults:List Int
 dirty:Bool
def aX.cells (x:aX):List Value:=[zi x.site.nodes,.slice x.site.pb x.site.pools.length x.site.pc,zi x.site.band,zi x.site.backoff,zi x.site.tries,zi x.site.rate,zi x.site.half,zi x.site.qos,zi x.site.age,zi x.site.old,zi x.site.size,zi x.site.use,
 zi x.now,zi x.next,.slice x.jb x.jobs.length x.jc,.slice x.bb x.bufs.length x.bc,.slice x.pb x.pools.length x.pc,.slice x.mb x.moves.length x.mc,.slice x.nb x.nodes.length x.nc,.slice x.sb x.shares.length x.sc,.slice x.rb x.rows.length x.rc,.slice x.fb x.faults.length x.fc,.bool x.dirty]
theorem aX.len (x:aX):x.cells.length=23:=rfl
structure aX.At (x:aX) (w:World):Prop where
 site:x.site.At w
 jobs:Rd 19 w (.slice x.jb x.jobs.length x.jc) x.jobs.length x.jc (x.jobs.flatMap dH.cells)
 jobsAt:∀ j∈x.jobs,j.slip.At w
 bufs:Rd 7 w (.slice x.bb x.bufs.length x.bc) x.bufs.length x.bc (x.bufs.flatMap dI.cells)
 bufsAt:∀ b∈x.bufs,b.At w
 pools:Rd 7 w (.slice x.pb x.pools.length x.pc) x.pools.length x.pc (x.pools.flatMap bW.cells)
 poolsAt:∀ p∈x.pools,p.At w
 moves:Rd 6 w (.slice x.mb x.moves.length x.mc) x.moves.length x.mc (x.moves.flatMap eL.cells)
 nodes:Rd 3 w (.slice x.nb x.nodes.length x.nc) x.nodes.length x.nc (x.nodes.flatMap cN.cells)
 shares:Rd 2 w (.slice x.sb x.shares.length x.sc) x.shares.length x.sc (x.shares.flatMap dQ.cells)
 rows:Rd 11 w (.slice x.rb x.rows.length x.rc) x.rows.length x.rc (x.rows.flatMap lQ.cells)
 faults:Rd 1 w (.slice x.fb x.faults.length x.fc) x.faults.length x.fc (x.faults.flatMap gI)
theorem bW.At.below {x:bW} (h:x.At w) (k:Below w.heap.size w w'):x.At w':=⟨h.free.below k,h.uses.below k⟩
theorem dI.At.below {x:dI} (h:x.At w) (k:Below w.heap.size w w'):x.At w':=⟨h.exts.below k,h.refs.below k⟩
theorem bS.At.below {x:bS} (h:x.At w) (k:Below w.heap.size w w'):x.At w':=⟨h.after.below k,h.make.below k,h.drop.below k,h.use.below k⟩
theorem aZ.At.below {x:aZ} (h:x.At w) (k:Below w.heap.size w w'):x.At w':=Rd.below h k
theorem aX.At.below {x:aX} (h:x.At w) (k:Below w.heap.size w w'):x.At w':=
 ⟨h.site.below k,h.jobs.below k,fun j hj=>(h.jobsAt j hj).below k,h.bufs.below k,fun j hj=>(h.bufsAt j hj).below k,h.pools.below k,fun j hj=>(h.poolsAt j hj).below k,h.moves.below k,h.nodes.below k,h.shares.below k,h.rows.below k,h.faults.below k⟩
def Nf (k:IntKind) (a b:Int):Int:=k.wrap ((BitVec.ofInt k.bits a &&& BitVec.ofInt k.bits b).toNat:Int)
def RU (k:IntKind) (a b:Int):Int:=k.wrap ((BitVec.ofInt k.bits a ||| BitVec.ofInt k.bits b).toNat:Int)
def Lu (k:IntKind) (a b:Int):Int:=k.wrap ((BitVec.ofInt k.bits a ^^^ BitVec.ofInt k.bits b).toNat:Int)
def uB (k:IntKind) (a b:Int):Int:=k.wrap ((BitVec.ofInt k.bits a &&& ~~~ BitVec.ofInt k.bits b).toNat:Int)
def yT (k:IntKind) (a b:Int):Int:=k.wrap (a*2 ^ (min b.toNat k.bits))
def LE (k:IntKind) (a b:Int):Int:=a.fdiv (2 ^ (min b.toNat k.bits))
def Sz (k:IntKind) (a:Int):Int:=k.wrap (0 - a)
section
variable {n:Nat} {g:Nat->Value} {w:World} {dd:Option Tmp} {ty t t':TypeId} {pos:String} {aft:Array Edge} {gd:Option (Nat × Bool)} {x y z:Operand} {k k2:IntKind} {a b:Int} {s:ByteArray}
theorem Nv (hx:ev n g x=.int k a) (hy:ev n g y=.int k b):aL n g ⟨dd,.binOp .and t x y t',ty,pos,aft,gd⟩ w (.int k (Nf k a b)):=by
 unfold aL execOp
 simp [hx, hy, go_sem, binOp, Op.intBits, Nf]
theorem ZO (hx:ev n g x=.int k a) (hy:ev n g y=.int k b):aL n g ⟨dd,.binOp .or t x y t',ty,pos,aft,gd⟩ w (.int k (RU k a b)):=by
 unfold aL execOp
 simp [hx, hy, go_sem, binOp, Op.intBits, RU]
theorem EL (hx:ev n g x=.int k a) (hy:ev n g y=.int k b):aL n g ⟨dd,.binOp .xor t x y t',ty,pos,aft,gd⟩ w (.int k (Lu k a b)):=by
 unfold aL execOp
 simp [hx, hy, go_sem, binOp, Op.intBits, Lu]
theorem QB (hx:ev n g x=.int k a) (hy:ev n g y=.int k b):aL n g ⟨dd,.binOp .andNot t x y t',ty,pos,aft,gd⟩ w (.int k (uB k a b)):=by
 unfold aL execOp
 simp [hx, hy, go_sem, binOp, Op.intBits, uB]
theorem Kz (hx:ev n g x=.int k a) (hy:ev n g y=.int k2 b) (h:0<=b):aL n g ⟨dd,.binOp .shl t x y t',ty,pos,aft,gd⟩ w (.int k (yT k a b)):=by
 unfold aL execOp
 have h':¬ b<0:=by omega
 simp [hx, hy, go_sem, binOp, Op.shift, yT, h']
theorem VI (hx:ev n g x=.int k a) (hy:ev n g y=.int k2 b) (h:0<=b):aL n g ⟨dd,.binOp .shr t x y t',ty,pos,aft,gd⟩ w (.int k (LE k a b)):=by
 unfold aL execOp
 have h':¬ b<0:=by omega
 simp [hx, hy, go_sem, binOp, Op.shift, LE, h']
theorem PN (hx:ev n g x=.bool true):aL n g ⟨dd,.unOp .not t x,ty,pos,aft,gd⟩ w (.bool false):=cJ hx
theorem Qi (hx:ev n g x=.bool false):aL n g ⟨dd,.unOp .not t x,ty,pos,aft,gd⟩ w (.bool true):=cJ hx
theorem r_neg (hx:ev n g x=.int k a):aL n g ⟨dd,.unOp .neg t x,ty,pos,aft,gd⟩ w (.int k (Sz k a)):=by
 unfold aL execOp
 simp [hx, go_sem, Op.unary, Op.intArith, Sz]
theorem Kn {a:Int} (h:-9223372036854775808<=a/\a<=9223372036854775807):IntKind.i64.wrap a=a:=by rw [IntKind.wrap_i64];omega
theorem Wd (hx:ev n g x=zi a) (hy:ev n g y=zi b) (h:-9223372036854775808<=a*b/\a*b<=9223372036854775807):aL n g ⟨dd,.binOp .mul t x y t',ty,pos,aft,gd⟩ w (zi (a*b)):=by
 unfold aL execOp
 have:=Kn h
 simp [hx, hy, go_sem, binOp, Op.intArith, this]
end
section
variable {n:Nat} {g:Nat->Value} {w:World} {dd:Option Tmp} {ty t t':TypeId} {pos:String} {aft:Array Edge} {gd:Option (Nat × Bool)} {x y z:Operand} {Pn:List PanicEntry->World->Prop} {R':Value->World->Prop}
theorem RZ (hB:Bk b cs td w) (hs:∀ w,(sizeOf t).run prog w=.ok vs.length w) (hx:ev n g x=pt b j) (hy:ev n g y'=.agg vs.toArray) (h1:vs.all (·.oneCell')=true) (hj:Nat.ble (j+vs.length) cs.length=true)
  (h:∀ w',Bk b (qZ cs j vs) td w'->aS b w w'->w'.heap.size=w.heap.size->R' undef w'):tV n g ⟨none,.store t x y',ty,pos,aft,gd⟩ w Pn R':=by
 obtain ⟨w',hr',hB',hO,hz⟩:=gJ j vs 0 cs w hB h1 (aA1 hj)
 refine .inr (.inr ⟨w',?_,h w' hB' hO hz⟩)
 unfold execOp
 simp [hx,hy,Instr.storeAt,Instr.sureAddr,storeVar,hs,Value.cells,hr']
variable {a b:Nat}
theorem cF (hx:ev n g x=zi (a:Int)) (hy:ev n g y=zi (b:Int)) (h:a+b<=4611686018427387904):aL n g ⟨dd,.binOp .add t x y t',ty,pos,aft,gd⟩ w (zi ((a+b:Nat):Int)):=by
 have:=iK (dd:=dd) (ty:=ty) (pos:=pos) (aft:=aft) (gd:=gd) (w:=w) (t:=t) (t':=t') hx hy (by omega)
 rwa [show (a:Int)+(b:Int)=((a+b:Nat):Int) by omega] at this
theorem cS (hx:ev n g x=zi (a:Int)) (hy:ev n g y=zi (b:Int)) (h:b<=a/\a<=4611686018427387904):aL n g ⟨dd,.binOp .sub t x y t',ty,pos,aft,gd⟩ w (zi ((a - b:Nat):Int)):=by
 have:=tB (dd:=dd) (ty:=ty) (pos:=pos) (aft:=aft) (gd:=gd) (w:=w) (t:=t) (t':=t') hx hy (by omega)
 rwa [show (a:Int) - (b:Int)=((a - b:Nat):Int) by omega] at this
theorem Aj (hx:ev n g x=zi (a:Int)) (hy:ev n g y=zi (b:Int)) (h:a*b<=4611686018427387904):aL n g ⟨dd,.binOp .mul t x y t',ty,pos,aft,gd⟩ w (zi ((a*b:Nat):Int)):=by
 have e:(a:Int)*(b:Int)=((a*b:Nat):Int):=by simp
 have:=Wd (dd:=dd) (ty:=ty) (pos:=pos) (aft:=aft) (gd:=gd) (w:=w) (t:=t) (t':=t') hx hy (by rw [e];omega)
 rwa [e] at this
theorem vW (hx:ev n g x=zi (a:Int)) (hy:ev n g y=zi (b:Int)) (h:0<b/\a<=4611686018427387904):aL n g ⟨dd,.binOp .quo t x y t',ty,pos,aft,gd⟩ w (zi ((a / b:Nat):Int)):=by
 have:=Qt (dd:=dd) (ty:=ty) (pos:=pos) (aft:=aft) (gd:=gd) (w:=w) (t:=t) (t':=t') hx hy ⟨by omega,by omega⟩ (by omega)
 rwa [show (a:Int).tdiv (b:Int)=((a / b:Nat):Int) from rfl] at this
theorem AD (hx:ev n g x=zi (a:Int)) (hy:ev n g y=zi (b:Int)):aL n g ⟨dd,.binOp .lss t x y t',ty,pos,aft,gd⟩ w (.bool (decide (a<b))):=by
 have:=eT (dd:=dd) (ty:=ty) (pos:=pos) (aft:=aft) (gd:=gd) (w:=w) (t:=t) (t':=t') hx hy
 rwa [show decide ((a:Int)<(b:Int))=decide (a<b) from decide_eq_decide.2 (by omega)] at this
theorem AI (hx:ev n g x=zi (a:Int)) (hy:ev n g y=zi (b:Int)):aL n g ⟨dd,.binOp .leq t x y t',ty,pos,aft,gd⟩ w (.bool (decide (a<=b))):=by
 have:=xV (dd:=dd) (ty:=ty) (pos:=pos) (aft:=aft) (gd:=gd) (w:=w) (t:=t) (t':=t') hx hy
 rwa [show decide ((a:Int)<=(b:Int))=decide (a<=b) from decide_eq_decide.2 (by omega)] at this
theorem GS (hx:ev n g x=zi (a:Int)) (hy:ev n g y=zi (b:Int)):aL n g ⟨dd,.binOp .gtr t x y t',ty,pos,aft,gd⟩ w (.bool (decide (b<a))):=by
 have:=gH (dd:=dd) (ty:=ty) (pos:=pos) (aft:=aft) (gd:=gd) (w:=w) (t:=t) (t':=t') hx hy
 rwa [show decide ((b:Int)<(a:Int))=decide (b<a) from decide_eq_decide.2 (by omega)] at this
theorem uJ (hx:ev n g x=zi (a:Int)) (hy:ev n g y=zi (b:Int)):aL n g ⟨dd,.binOp .geq t x y t',ty,pos,aft,gd⟩ w (.bool (decide (b<=a))):=by
 have:=nU (dd:=dd) (ty:=ty) (pos:=pos) (aft:=aft) (gd:=gd) (w:=w) (t:=t) (t':=t') hx hy
 rwa [show decide ((b:Int)<=(a:Int))=decide (b<=a) from decide_eq_decide.2 (by omega)] at this
theorem AL (hx:ev n g x=zi (a:Int)) (hy:ev n g y=zi (b:Int)):aL n g ⟨dd,.binOp .eql t x y t',ty,pos,aft,gd⟩ w (.bool (decide (a=b))):=by
 have:=eZ (dd:=dd) (ty:=ty) (pos:=pos) (aft:=aft) (gd:=gd) (w:=w) (t:=t) (t':=t') hx hy
 rwa [show decide ((a:Int)=(b:Int))=decide (a=b) from decide_eq_decide.2 (by omega)] at this
def dE (tl:List Value) (d:Array aK):List Value:=d.toList.flatMap aK.cells++tl
variable {tl:List Value}
theorem Ds (l:List aK):(l.flatMap aK.cells).length=l.length*2:=by
 induction l with
 | nil=>rfl
 | cons x r ih=>rw [aBu,aBh,ih,aK.clen,aB3];omega
theorem Ud (d):(dE tl d).length=d.size*2+tl.length:=by
 unfold dE;rw [aBh,Ds];simp
theorem fA {bk i:Nat} (hB:Bk bk (dE tl d) 112 w) (hi:i<d.size):w.rangeAt bk (0+i*2) (aK.cells d[i]!):=by
 have hk:i<d.toList.length:=by simpa using hi
 have hr:w.rangeAt bk 0 (d.toList.flatMap aK.cells):=fun j u hu=>hB.range j u (by unfold dE;rw [List.getElem?_append_left (List.getElem?_eq_some_iff.1 hu).1];exact hu)
 have:=cQ aK.cells 2 aK.clen (l:=d.toList) hr hB.lt (aDt _ _) hk
 simpa [hi] using this
theorem lE {bk i:Nat} (hB:Bk bk (dE tl d) 112 w) (hT:Below w.heap.size w W) (hi:i<d.size):W.rangeAt bk (0+i*2) (aK.cells d[i]!):=fA (hB.below hT) hi
theorem Pf: ∀ (l:List aK) (i:Nat) (x:aK),i<l.length->qZ (l.flatMap aK.cells++tl) (i*2) (aK.cells x)=(l.set i x).flatMap aK.cells++tl
 | y::r,0,x,_=>rfl
 | y::r,i+1,x,h=>by
  have ih:=Pf r i x (by simpa using h)
  simp only [aK.cells,qZ,aBu,List.set_cons_succ,aBs] at ih ⊢
  rw [<- ih,show (i+1)*2=i*2+1+1 by omega]
  rfl
theorem RK {x:aK} (h:i<d.size):qZ (dE tl d) (0+i*2) (aK.cells x)=dE tl (d.setIfInBounds i x):=by
 rw [aDa]
 unfold dE
 rw [Pf _ _ _ (by simpa using h)]
 simp
theorem jF {e:aK} (hB:Bk bk (dE tl d) 112 w) (hx:ev n g x=pt bk (0+i*2)) (hy:ev n g y'=.agg (aK.cells e).toArray) (hi:i<d.size)
  (h:∀ w',Bk bk (dE tl (d.setIfInBounds i e)) 112 w'->aS bk w w'->R' undef w'):tV n g ⟨none,.store 112 x y',ty,pos,aft,gd⟩ w Pn R':=
 RZ (vs:=aK.cells e) hB sizeOf112 hx hy rfl (by rw [Nat.ble_eq,Ud];simp [aK.clen];omega) fun w' hB' hO _=>h w' (by rw [<- RK hi];exact hB') hO
theorem EP (d:Array aK) (i) (e):(d.setIfInBounds i e).size=d.size:=Array.size_setIfInBounds
theorem iN (d:Array aK) (i j:Nat):(Sort.swp d i j).size=d.size:=by unfold Sort.swp;rw [EP,EP]
theorem mQ {bk:Nat} {d:Array aK} {a b:World} (h:Bk bk (dE tl d) 112 a) (k:Below a.heap.size a b):Bk bk (dE tl d) 112 b:=h.below k
theorem II {xs:List Operand} {R:Value->World->Prop} (hx:ev n g x=.func (.func f) fst.toArray #[]) (ha:args=fst++xs.map (ev n g))
  (hf:EN f) (hc:cT f args w R):tV n g ⟨dd,.call ⟨.value x,xs.toArray,ts⟩,ty,pos,aft,gd⟩ w Pn (fun v w'=>Below w.heap.size w w'/\R v w'):=by
 refine .inr (.inl ⟨f,args.toArray,?_,aDx hc fun e w' ⟨v,he,hk,hv⟩=>.inl ⟨v,he,hk,hv⟩⟩)
 unfold execOp
 simp [resolve,hx,Deferred.ofValue,invoke,hf,ha]
end
theorem wO {g:Nat->Value} {xs:List Operand} (h:args=xs.map (ev n g)):fst++args=fst++xs.map (ev n g):=by rw [h]
theorem dC {Q:Exit->Act->World->Prop} {id id2:Nat} {a:Act} {w:World} (hne:Nat.beq id2 id=false) (h:Q (.exit id2) a w):Exit.inBlock id Q (.exit id2) a w:=by
 unfold Exit.inBlock
 have:¬ id2=id:=fun e=>by rw [e,Nat.beq_refl] at hne;cases hne
 simpa [this] using h
theorem a5 {g:Nat->Value} (h:ev n g x=v) (h2:ev n g x2=v2) (h3:ev n g x3=v3) (h4:ev n g x4=v4) (h5:ev n g x5=v5):[v,v2,v3,v4,v5]=[x,x2,x3,x4,x5].map (ev n g):=by simp [h,h2,h3,h4,h5]
theorem a6 {g:Nat->Value} (h:ev n g x=v) (h2:ev n g x2=v2) (h3:ev n g x3=v3) (h4:ev n g x4=v4) (h5:ev n g x5=v5) (h6:ev n g x6=v6):[v,v2,v3,v4,v5,v6]=[x,x2,x3,x4,x5,x6].map (ev n g):=by simp [h,h2,h3,h4,h5,h6]
abbrev mO:Value:=.func (.func 213) #[] #[]
theorem KM.next {M M':Nat->Prop} (h:KM M W A) (k:KM M' A B) (hm:∀ i,M' i->M i\/W.heap.size<=i):KM M W B:=
 ⟨k.os.trans h.os,k.tape.trans h.tape,k.output.trans h.output,aC7 h.size k.size,fun i hi hM=>(k.block i (aBi hi h.size) fun h'=>(hm i h').elim hM fun h2=>absurd hi (aDz.2 h2)).trans (h.block i hi hM)⟩
section
variable {r:Option Nat} {n:Nat} {ds:List Deferred} {g:Nat->Value} {w:World} {Q:Exit->Act->World->Prop} {x:Code}
theorem Gs (J:(Nat->Value)->World->Prop) (h:Wp r x (Exit.then (fun a W=>∃ g,a=fr n ds g/\J g W) Q) (fr n ds g) w) (k:∀ g W,J g W->Q .normal (fr n ds g) W):Wp r x Q (fr n ds g) w:=by
 refine vH h fun e a w1 hq =>?_
 cases e with
 | normal=>obtain ⟨g1,rfl,hJ⟩:=hq;exact k g1 w1 hJ
 | exit id=>exact hq
 | ret=>exact hq
 | goto l=>exact hq
 | panic c=>exact hq
 | outgrown=>exact hq
theorem Al (h:Wp r c (Exit.then (fun _ _=>False) Q) (fr n ds g) w):Wp r (Code.loop c) Q (fr n ds g) w:=
 lp (fun m g' w'=>g'=g/\w'=w) 0 ⟨rfl,rfl⟩ (by
  rintro m g' w' ⟨rfl,rfl⟩
  refine vH h fun e a W hq =>?_
  cases e <;> first | exact hq.elim | exact hq)
end
def jN (a b:Int):Int:=if a<b then -1 else if b<a then 1 else 0
def bK (x y:aK):Bool:=decide (jN x.at_ y.at_<0)
abbrev FV:Value:=.func (.func 216) #[.func (.func 213) #[] #[]] #[]
def GY (n:Int):Bool:=!decide ((n:Int)=(n:Int))
theorem EX (n:Int) (w)  : cT 205 [zi n] w fun v _=>v=.bool (GY n):=by
 exact aJ (n:=6) func205 rfl ntmps205 (aA1 rfl) (rg (bU (nx (rg (aN (zi n) rfl (aN (zi n) rfl (sq (gC rfl rfl) (aW (.bool (!decide ((n:Int)=(n:Int)))) rfl (nx (aE (bT rfl (aDt _ _) rfl)))))))))))
theorem Kb (n:Int):GY n=false:=by simp [GY]
theorem Wi (n:Int) (w):cT 205 [zi n] w fun v _=>v=.bool false:=by have:=EX n w;rwa [Kb] at this
theorem Ax (a b:Int) (w):cT 158 [zi a,zi b] w fun v _=>v=zi (jN a b):=by
 refine aJ (n:=20) func158 rfl ntmps158 (aA1 rfl) (rg (bU (nx (rg (aN (zi a) rfl (cE Kx (a1 rfl) (Wi a _) ?_))))))
 rintro _ w1 k1 rfl
 refine aW (.bool false) rfl (nx (rg (aN (zi b) rfl (cE Kx (a1 rfl) (Wi b _) ?_))))
 rintro _ w2 k2 rfl
 have b3:=aDu k1 k2
 refine aW (.bool false) rfl (nx (aF (rg (aN (.bool false) rfl (nx (rM rfl (aG (aF (rg (aN (.bool false) rfl (nx (rM rfl ?_))))))))))))
 refine aG (aF (rg (aN (zi a) rfl (aN (zi b) rfl (sq (eT rfl rfl) (nx ?_))))))
 refine cd rfl (fun c4=>?_) (fun c4=>?_)
 ·
  refine rg (aW (zi (-1)) rfl (nx (aE ?_)))
  refine bT (R:=fun v _=>v=zi (jN a b)) rfl b3 (aD6 (b:=(zi (-1):Value)) rfl ?_)
  simp [jN,aBp c4]
 ·
  refine aG (aF (rg (aN (zi a) rfl (aN (zi b) rfl (sq (gH rfl rfl) (nx ?_))))))
  refine cd rfl (fun c5=>?_) (fun c5=>?_)
  ·
   refine rg (bU (nx (aE ?_)))
   refine bT (R:=fun v _=>v=zi (jN a b)) rfl b3 (aD6 (b:=(zi (1):Value)) rfl ?_)
   simp [jN,aBe c4,aBp c5]
  ·
   refine aG (rg (bU (nx (aE ?_))))
   refine bT (R:=fun v _=>v=zi (jN a b)) rfl b3 (aD6 (b:=(zi (0):Value)) rfl ?_)
   simp [jN,aBe c4,aBe c5]
theorem OC (x) (w):cT 213 [.agg (aK.cells x).toArray] w fun v _=>v=zi x.at_:=by
 refine aJ (n:=5) func213 rfl ntmps213 (aA1 rfl) (rg (cO (cs:=(aK.cells x)) rfl rfl fun w1 B1 k1 z1 =>?_))
 have leB1:=aDl w.heap.size
 refine bU (nx (rg (sq (gW rfl) (sq (cZ rfl (B1.cell 0 rfl)) (aW (zi ((x).at_)) rfl (nx (aE ?_)))))))
 refine bT (R:=fun v _=>v=zi (x).at_) rfl k1 (aD6 (b:=(zi ((x).at_):Value)) rfl ?_)
 rfl
theorem kO (x y) (w):cT 216 [.func (.func 213) #[] #[],.agg (aK.cells x).toArray,.agg (aK.cells y).toArray] w fun v _=>v=zi (jN x.at_ y.at_):=by
 refine aJ (n:=14) func216 rfl ntmps216 (aA1 rfl) (rg (cO (cs:=(aK.cells x)) rfl rfl fun w1 B1 k1 z1 =>?_))
 have leB1:=aDl w.heap.size
 refine cO (cs:=(aK.cells y)) rfl rfl fun w2 B2 k2 z2 =>?_
 have nB1_B2:=aC8 B1.lt
 have leB2:=k1.size
 have b3:=aDu k1 k2
 have B1:=B1.below k2
 refine bU (nx ?_)
 refine sD (_::_::(vE (zi ((x).at_)))::_::_::(vE (zi ((y).at_)))::(vE (zi (jN ((x).at_) ((y).at_))))::_::[]) [(7,6)] [] rfl ⟨aA,aA,aA,aA,aA,aA,aA,aA,trivial⟩ (by kernel_rfl) rfl rfl (fun Sd=>⟨
  bF Sd rfl rfl,
  iG 4 Sd rfl fun hT q=>bQ q ((B1.below hT).range) rfl,
  oW [(0,7),(1,8)] [] Sd rfl fun _ _ _ h _=>dc (caps:=[]) h.1 (ac (a1 h.2.1)) VN (OC x _),
  bF Sd rfl rfl,
  iG 5 Sd rfl fun hT q=>bQ q ((B2.below hT).range) rfl,
  oW [(3,10),(4,11)] [] Sd rfl fun _ _ _ h _=>dc (caps:=[]) h.1 (ac (a1 h.2.1)) VN (OC y _),
  oW [(2,9),(5,12)] [] Sd rfl fun _ _ _ h _=>gV (a2 h.1 h.2.1) VP (Ax ((x).at_) ((y).at_) _),
  oW [(6,13)] [] Sd rfl fun _ _ _ h _=>dv kC h.1,
  trivial⟩) ?_
 rintro g4 w4 k4 ⟨s6,-⟩ -
 have b5:=aDu b3 k4
 refine aE ?_
 refine bT (R:=fun v _=>v=zi (jN x.at_ y.at_)) rfl b5 (aD6 (b:=(zi (jN ((x).at_) ((y).at_)):Value)) s6 ?_)
 rfl
theorem Np {a b:Bool} (h:(a&&b)=true):a=true:=by cases a <;> simp_all
theorem VS {a b:Bool} (h:(a&&b)=true):b=true:=by cases a <;> simp_all
theorem UM (h:a<j) (h2:bK d[j]! d[j - 1]! = true):Sort.insInner bK a j d=Sort.insInner bK a (j - 1) (Sort.swp d j (j - 1)):=by
 cases j with
 | zero=>omega
 | succ j=>rw [Sort.insInner,aEc (by simp at h2 ⊢;exact ⟨by omega,h2⟩)];rfl
theorem Uz (h:(decide (a<j)&&bK d[j]! d[j - 1]!)=false):Sort.insInner bK a j d=d:=by
 cases j with
 | zero=>rfl
 | succ j=>rw [Sort.insInner,aEd (by simp at h ⊢;intro h3;exact h (by omega))]
theorem Ol (h:i<b):Sort.insOuter bK a b i d=Sort.insOuter bK a b (i+1) (Sort.insInner bK a i d):=by rw [Sort.insOuter,aEc h]
theorem PJ (h:¬ i<b):Sort.insOuter bK a b i d=d:=by rw [Sort.insOuter,aEd h]
theorem SV (b c N) (d) (lo hi) (w) (hR:Bk b (dE tl d) 112 w) (hz:d.size=N) (hN:N<=1000000) (h1:lo<=hi) (h2:hi<=N):jP (·=b) 251 [.slice (some ⟨b,0,none⟩) N c,zi (lo:Int),zi (hi:Int),FV] w fun v W=>v=.tuple #[]/\Bk b (dE tl (Sort.insertionSort bK d lo hi)) 112 W/\(Sort.insertionSort bK d lo hi).size=N:=by
 refine aJ (n:=53) func251 rfl ntmps251 (aA1 rfl) (rg (aN (zi ((lo:Nat):Int)) rfl (sq (cF (a:=lo) (b:=1) rfl rfl (by omega)) (aW (zi ((lo+1:Nat):Int)) rfl (nx ?_)))))
 refine aO (lp (fun m g W=>∃ i:Nat,∃ e:Array aK,m=hi - i/\g 0=.slice (some ⟨b,0,none⟩) N c/\g 1=zi ((lo:Nat):Int)/\g 2=zi ((hi:Nat):Int)/\g 3=.func (.func 216) ([mO]).toArray ([]).toArray/\g 8=zi ((i:Nat):Int)/\Bk b (dE tl e) 112 W/\KM (·=b) w W/\e.size=N/\(lo+1<=i/\Sort.insOuter bK lo hi i e=Sort.insertionSort bK d lo hi)) _ ⟨(lo+1),d,rfl,rfl,rfl,rfl,rfl,rfl,hR,(aD8 _ _),(by first | omega | (simp only [iN];omega)),And.intro (aDl _) rfl⟩ ?_)
 rintro m g1 w1 ⟨i,e,hme1,s0,s1,s2,s3,s8,hR1,km1,hz1,hP⟩
 refine aF (rg (bI s8 (bI s2 (sq (AD (a:=i) (b:=hi) rfl rfl) (nx ?_)))))
 refine cd rfl (fun c2=>?_) (fun c2=>?_)
 ·
  have c2n:=aBp c2
  refine aG (aF (aO (rg (bI s8 (aW (zi ((i:Nat):Int)) rfl (nx ?_))))))
  refine aO (lp (fun m g W=>∃ j:Nat,∃ f:Array aK,m=j/\g 0=.slice (some ⟨b,0,none⟩) N c/\g 1=zi ((lo:Nat):Int)/\g 2=zi ((hi:Nat):Int)/\g 3=.func (.func 216) ([mO]).toArray ([]).toArray/\g 8=zi ((i:Nat):Int)/\g 9=zi ((j:Nat):Int)/\Bk b (dE tl f) 112 W/\KM (·=b) w W/\f.size=N/\(j<=i/\Sort.insInner bK lo j f=Sort.insInner bK lo i e)) _ ⟨i,e,rfl,s0,s1,s2,s3,s8,rfl,hR1,km1,(by first | omega | (simp only [iN];omega)),And.intro (aDl _) rfl⟩ ?_)
  rintro m g3 w3 ⟨j,f,hme3,s0,s1,s2,s3,s8,s9,hR3,km3,hz3,hQ⟩
  refine aF ?_
  refine sD (_::_::_::_::_::_::_::_::_::_::_::_::_::_::(GV (decide (lo<j)) (vE (zi (jN ((f[j]!).at_) ((f[j - 1]!).at_)))))::_::_::[]) [(16,34)] [0,1,2,3,8,9] rfl ⟨aA,aA,aA,aA,aD aA,aD aA,aD aA,aD aA,aD aA,aD aA,aD aA,aD aA,aD aA,aD aA,aD aA,aD aA,aA,trivial⟩ (by kernel_rfl) rfl rfl (fun Sd=>⟨
   bF Sd rfl s9,
   bF Sd rfl s1,
   aP [0,1] Sd rfl fun h=>GS (a:=j) (b:=lo) h.1 h.2.1,
   oW [(2,20)] [] Sd rfl fun _ _ _ h _=>dv aT h.1,
   iP Sd rfl s3,
   iP Sd rfl s0,
   iP Sd rfl s9,
   dM [5,6] Sd rfl fun e _ h=>bB underlying67 sizeOf112 (h.1.1 e) (h.2.1.1 e) (by have he:=aBp e;omega),
   dM [7] Sd rfl fun e hT h=>bQ (h.1.1 e) (lE hR3 hT (by have he:=aBp e;omega)) rfl,
   iP Sd rfl s0,
   iP Sd rfl s9,
   dM [10] Sd rfl fun e _ h=>cS (a:=j) (b:=1) (h.1.1 e) rfl (by have he:=aBp e;omega),
   dM [9,11] Sd rfl fun e _ h=>bB underlying67 sizeOf112 (h.1.1 e) (h.2.1.1 e) (by have he:=aBp e;omega),
   dM [12] Sd rfl fun e hT h=>bQ (h.1.1 e) (lE hR3 hT (by have he:=aBp e;omega)) rfl,
   oT [(4,22),(8,26),(13,31)] [] Sd rfl i2 gU fun e _ _ _ h _=>dG e (II (fst:=[mO]) (h.1.1 e) (wO (a2 (h.2.1.1 e) (h.2.2.1.1 e))) oP (kO f[j]! f[j - 1]! _)),
   dM [14] Sd rfl fun e _ h=>eT (h.1.1 e) rfl,
   aP [3,15] Sd rfl fun h=>cG h.1 (fun c=>h.2.1.1 c),
   trivial⟩) ?_
  rintro g4 w4 k4 ⟨s34,-⟩ ⟨o0,o1,o2,o3,o8,o9,-⟩
  have s0:=o0.trans s0
  have s1:=o1.trans s1
  have s2:=o2.trans s2
  have s3:=o3.trans s3
  have s8:=o8.trans s8
  have s9:=o9.trans s9
  have hR3:=hR3.below k4
  have m5:KM (·=b) w w4:=km3.below k4
  refine cd s34 (fun c6=>?_) (fun c6=>?_)
  ·
   have c6n:=aBp (Np c6)
   refine aG (aF (aO ?_))
   refine YD (fun _ _=>False) (eE (V:=_::_::_::_::_::_::_::_::_::_::_::_::_::_::_::(fun _ _=>True)::_::(fun _ _=>True)::[]) (M:=fun i=>i=b) (ch:=[15,17]) (L:=[fun W=>Bk b (dE tl f) 112 W,fun W=>Bk b (dE tl (f.setIfInBounds j f[j - 1]!)) 112 W,fun W=>Bk b (dE tl ((f.setIfInBounds j f[j - 1]!).setIfInBounds (j - 1) f[j]!)) 112 W]) rfl ⟨aC,aC,aC,aC,aC,aC,aC,aC,aC,aC,aC,aC,aC,aC,aC,fI,aC,fI,trivial⟩ rfl rfl rfl (by intro P hP a b h k;simp only [aC0,aBy,or_false] at hP;rcases hP with rfl | rfl | rfl <;> exact mQ h k)) [] [0,1,2,3,8,9] (by kernel_rfl) rfl rfl hR3 (fun _ _ _ h=>h.elim) (fun Sd=>⟨
    bF Sd rfl s0,
    bF Sd rfl s9,
    bF Sd rfl s0,
    bF Sd rfl s9,
    aP [3] Sd rfl fun h=>cS (a:=j) (b:=1) h.1 rfl (by omega),
    bF Sd rfl s0,
    bF Sd rfl s9,
    aP [6] Sd rfl fun h=>cS (a:=j) (b:=1) h.1 rfl (by omega),
    aP [5,7] Sd rfl fun h=>bB underlying67 sizeOf112 h.1 h.2.1 (by omega),
    ol [(8,45)] [] Sd rfl rfl rfl rfl (by rintro g1 w1 hT ⟨h8,-⟩ - hB0;exact dv (bQ h8 (fA hB0 (by omega)) rfl) rfl),
    bF Sd rfl s0,
    bF Sd rfl s9,
    aP [10,11] Sd rfl fun h=>bB underlying67 sizeOf112 h.1 h.2.1 (by omega),
    ol [(12,49)] [] Sd rfl rfl rfl rfl (by rintro g1 w1 hT ⟨h12,-⟩ - hB0;exact dv (bQ h12 (fA hB0 (by omega)) rfl) rfl),
    aP [0,1] Sd rfl fun h=>bB underlying67 sizeOf112 h.1 h.2.1 (by omega),
    oc 0 [(9,46),(14,51)] [] rfl rfl rfl (by rintro g1 w1 hT ⟨h9,h14,-⟩ - hB0;exact jF hB0 h14 h9 (by omega) (fun W hB9 O=>And.intro (aD0 O rfl) (And.intro True.intro hB9))),
    aP [2,4] Sd rfl fun h=>bB underlying67 sizeOf112 h.1 h.2.1 (by omega),
    oc 1 [(13,50),(16,52)] [] rfl rfl rfl (by rintro g1 w1 hT ⟨h13,h16,-⟩ - hB0;exact jF hB0 h16 h13 (by rw [EP];omega) (fun W hB9 O=>And.intro (aD0 O rfl) (And.intro True.intro hB9))),
    trivial⟩) ?_
   rintro g7 w7 k7 - ⟨o0,o1,o2,o3,o8,o9,-⟩ hR7
   have hR7:Bk b (dE tl (Sort.swp f j (j - 1))) 112 w7:=hR7
   have hz7:(Sort.swp f j (j - 1)).size=N:=by rw [iN];omega
   have s0:=o0.trans s0
   have s1:=o1.trans s1
   have s2:=o2.trans s2
   have s3:=o3.trans s3
   have s8:=o8.trans s8
   have s9:=o9.trans s9
   have m8:=m5.trans k7
   exact pI (eO (bI s9 (sq (cS (a:=j) (b:=1) rfl rfl (by omega)) (aW (zi ((j - 1:Nat):Int)) rfl (nl (fC (by omega) ⟨(j - 1),(Sort.swp f j (j - 1)),rfl,s0,s1,s2,s3,s8,rfl,hR7,m8,(by first | omega | (simp only [iN];omega)),And.intro (by omega) (by rw [<- hQ.2,UM (aBp (Np c6)) (VS c6)])⟩))))))
  ·
   refine cI ?_
   repeat refine bN ?_
   exact dP (pI (eO (bI s8 (sq (cF (a:=i) (b:=1) rfl rfl (by omega)) (aW (zi ((i+1:Nat):Int)) rfl (nl (fC (by omega) ⟨(i+1),f,rfl,s0,s1,s2,s3,rfl,hR3,m5,(by first | omega | (simp only [iN];omega)),And.intro (by omega) (by rw [<- hP.2,Ol (aBp c2),<- hQ.2,Uz c6])⟩)))))))
 ·
  have c2n:=aBe c2
  refine cI ?_
  repeat refine bN ?_
  exact dP (fV rfl ⟨_,rfl,km1,rfl,by rw [<- hP.2,PJ (aBe c2)];exact ⟨hR1,by omega⟩⟩)
theorem rev_t {i j:Nat} {d:Array aK} (h:i<j):Sort.reverseLoop i j d=Sort.reverseLoop (i+1) (j - 1) (Sort.swp d i j):=by rw [Sort.reverseLoop,aEc h]
theorem rev_f {i j:Nat} {d:Array aK} (h:¬ i<j):Sort.reverseLoop i j d=d:=by rw [Sort.reverseLoop,aEd h]
theorem Uu (b c N) (d) (lo hi) (w) (hR:Bk b (dE tl d) 112 w) (hz:d.size=N) (hN:N<=1000000) (h1:lo<hi) (h2:hi<=N):jP (·=b) 255 [.slice (some ⟨b,0,none⟩) N c,zi (lo:Int),zi (hi:Int),FV] w fun v W=>v=.tuple #[]/\Bk b (dE tl (Sort.reverseRange d lo hi)) 112 W/\(Sort.reverseRange d lo hi).size=N:=by
 refine aJ (n:=34) func255 rfl ntmps255 (aA1 rfl) (rg (aN (zi ((lo:Nat):Int)) rfl (aW (zi ((lo:Nat):Int)) rfl (nx (rg (aN (zi ((hi:Nat):Int)) rfl (sq (cS (a:=hi) (b:=1) rfl rfl (by omega)) (aW (zi ((hi - 1:Nat):Int)) rfl (nx ?_)))))))))
 refine aO (lp (fun m g W=>∃ i:Nat,∃ j:Nat,∃ e:Array aK,m=j - i/\g 0=.slice (some ⟨b,0,none⟩) N c/\g 8=zi ((i:Nat):Int)/\g 9=zi ((j:Nat):Int)/\Bk b (dE tl e) 112 W/\KM (·=b) w W/\e.size=N/\(j<N/\Sort.reverseLoop i j e=Sort.reverseRange d lo hi)) _ ⟨lo,(hi - 1),d,rfl,rfl,rfl,rfl,hR,(aD8 _ _),(by first | omega | (simp only [iN];omega)),And.intro (by omega) rfl⟩ ?_)
 rintro m g1 w1 ⟨i,j,e,hme1,s0,s8,s9,hR1,km1,hz1,hP⟩
 refine aF (rg (bI s8 (bI s9 (sq (AD (a:=i) (b:=j) rfl rfl) (nx ?_)))))
 refine cd rfl (fun c2=>?_) (fun c2=>?_)
 ·
  have c2n:=aBp c2
  refine aG (aO ?_)
  refine CP (fun _ _=>False) (eE (V:=_::_::_::_::_::_::_::_::_::_::_::_::_::(fun _ _=>True)::_::(fun _ _=>True)::[]) (M:=fun i=>i=b) (ch:=[13,15]) (L:=[fun W=>Bk b (dE tl e) 112 W,fun W=>Bk b (dE tl (e.setIfInBounds i e[j]!)) 112 W,fun W=>Bk b (dE tl ((e.setIfInBounds i e[j]!).setIfInBounds j e[i]!)) 112 W]) rfl ⟨aC,aC,aC,aC,aC,aC,aC,aC,aC,aC,aC,aC,aC,fI,aC,fI,trivial⟩ rfl rfl rfl (by intro P hP a b h k;simp only [aC0,aBy,or_false] at hP;rcases hP with rfl | rfl | rfl <;> exact mQ h k)) [] [0,8,9] (by kernel_rfl) rfl rfl hR1 (fun _ _ _ h=>h.elim) (fun Sd=>⟨
   bF Sd rfl s0,
   bF Sd rfl s8,
   bF Sd rfl s0,
   bF Sd rfl s9,
   bF Sd rfl s0,
   bF Sd rfl s9,
   aP [4,5] Sd rfl fun h=>bB underlying67 sizeOf112 h.1 h.2.1 (by omega),
   ol [(6,22)] [] Sd rfl rfl rfl rfl (by rintro g1 w1 hT ⟨h6,-⟩ - hB0;exact dv (bQ h6 (fA hB0 (by omega)) rfl) rfl),
   bF Sd rfl s0,
   bF Sd rfl s8,
   aP [8,9] Sd rfl fun h=>bB underlying67 sizeOf112 h.1 h.2.1 (by omega),
   ol [(10,26)] [] Sd rfl rfl rfl rfl (by rintro g1 w1 hT ⟨h10,-⟩ - hB0;exact dv (bQ h10 (fA hB0 (by omega)) rfl) rfl),
   aP [0,1] Sd rfl fun h=>bB underlying67 sizeOf112 h.1 h.2.1 (by omega),
   oc 0 [(7,23),(12,28)] [] rfl rfl rfl (by rintro g1 w1 hT ⟨h7,h12,-⟩ - hB0;exact jF hB0 h12 h7 (by omega) (fun W hB9 O=>And.intro (aD0 O rfl) (And.intro True.intro hB9))),
   aP [2,3] Sd rfl fun h=>bB underlying67 sizeOf112 h.1 h.2.1 (by omega),
   oc 1 [(11,27),(14,29)] [] rfl rfl rfl (by rintro g1 w1 hT ⟨h11,h14,-⟩ - hB0;exact jF hB0 h14 h11 (by rw [EP];omega) (fun W hB9 O=>And.intro (aD0 O rfl) (And.intro True.intro hB9))),
   trivial⟩) ?_
  rintro g3 w3 k3 - ⟨o0,o8,o9,-⟩ hR3
  have hR3:Bk b (dE tl (Sort.swp e i j)) 112 w3:=hR3
  have hz3:(Sort.swp e i j).size=N:=by rw [iN];omega
  have s0:=o0.trans s0
  have s8:=o8.trans s8
  have s9:=o9.trans s9
  have m4:KM (·=b) w w3:=km1.trans k3
  exact rg (bI s8 (sq (cF (a:=i) (b:=1) rfl rfl (by omega)) (aW (zi ((i+1:Nat):Int)) rfl (nx (eO (bI s9 (sq (cS (a:=j) (b:=1) rfl rfl (by omega)) (aW (zi ((j - 1:Nat):Int)) rfl (nl (pI (fC (by omega) ⟨(i+1),(j - 1),(Sort.swp e i j),rfl,s0,rfl,rfl,hR3,m4,(by first | omega | (simp only [iN];omega)),And.intro (by omega) (by rw [<- hP.2,rev_t c2n])⟩)))))))))))
 ·
  have c2n:=aBe c2
  refine cI ?_
  repeat refine bN ?_
  exact dP (fV rfl ⟨_,rfl,km1,rfl,by rw [<- hP.2,rev_f c2n];exact ⟨hR1,by omega⟩⟩)
section
variable {hi first r:Nat} {d:Array aK}
theorem Yf (h:hi<=2*r+1):Sort.siftDown bK hi first r d=d:=by rw [Sort.siftDown,dif_pos h]
theorem To (h:¬ hi<=2*r+1) (h2:(decide (2*r+1+1<hi)&&bK d[first+(2*r+1)]! d[first+(2*r+1)+1]!)=true) (h3:(!bK d[first+r]! d[first+(2*r+1+1)]!)=true):Sort.siftDown bK hi first r d=d:=by
 rw [Sort.siftDown,dif_neg h,aEc (by simpa using h2),aEc h3]
theorem Xr (h:¬ hi<=2*r+1) (h2:(decide (2*r+1+1<hi)&&bK d[first+(2*r+1)]! d[first+(2*r+1)+1]!)=true) (h3:(!bK d[first+r]! d[first+(2*r+1+1)]!)=false):Sort.siftDown bK hi first r d=Sort.siftDown bK hi first (2*r+1+1) (Sort.swp d (first+r) (first+(2*r+1+1))):=by
 have hl:2*r+1+1<hi:=aBp (Np h2)
 rw [Sort.siftDown,dif_neg h,aEc (by simpa using h2),aEd (by rw [h3];exact aBf),dif_pos hl]
theorem Uc (h:¬ hi<=2*r+1) (h2:(decide (2*r+1+1<hi)&&bK d[first+(2*r+1)]! d[first+(2*r+1)+1]!)=false) (h3:(!bK d[first+r]! d[first+(2*r+1)]!)=true):Sort.siftDown bK hi first r d=d:=by
 rw [Sort.siftDown,dif_neg h,aEd (by rw [Bool.not_eq_true];exact h2),aEc h3]
theorem WX (h:¬ hi<=2*r+1) (h2:(decide (2*r+1+1<hi)&&bK d[first+(2*r+1)]! d[first+(2*r+1)+1]!)=false) (h3:(!bK d[first+r]! d[first+(2*r+1)]!)=false):Sort.siftDown bK hi first r d=Sort.siftDown bK hi first (2*r+1) (Sort.swp d (first+r) (first+(2*r+1))):=by
 rw [Sort.siftDown,dif_neg h,aEd (by rw [Bool.not_eq_true];exact h2),aEd (by rw [h3];exact aBf)]
end
theorem GL (b c N) (d) (lo hi first) (w) (hR:Bk b (dE tl d) 112 w) (hz:d.size=N) (hN:N<=1000000) (h1:lo<=N) (h2:first+hi<=N):jP (·=b) 278 [.slice (some ⟨b,0,none⟩) N c,zi (lo:Int),zi (hi:Int),zi (first:Int),FV] w fun v W=>v=.tuple #[]/\Bk b (dE tl (Sort.siftDown bK hi first lo d)) 112 W/\(Sort.siftDown bK hi first lo d).size=N:=by
 refine aJ (n:=82) func278 rfl ntmps278 (aA1 rfl) (rg (aN (zi ((lo:Nat):Int)) rfl (aW (zi ((lo:Nat):Int)) rfl (nx ?_))))
 refine aO (lp (fun m g W=>∃ r:Nat,∃ y:Array aK,m=hi - r/\g 0=.slice (some ⟨b,0,none⟩) N c/\g 2=zi ((hi:Nat):Int)/\g 3=zi ((first:Nat):Int)/\g 4=.func (.func 216) ([mO]).toArray ([]).toArray/\g 10=zi ((r:Nat):Int)/\Bk b (dE tl y) 112 W/\KM (·=b) w W/\y.size=N/\(r<=N/\Sort.siftDown bK hi first r y=Sort.siftDown bK hi first lo d)) _ ⟨lo,d,rfl,rfl,rfl,rfl,rfl,rfl,hR,(aD8 _ _),(by first | omega | (simp only [iN];omega)),And.intro (by omega) rfl⟩ ?_)
 rintro m g1 w1 ⟨r,y,hme1,s0,s2,s3,s4,s10,hR1,km1,hz1,hP⟩
 refine aO (rg (bI s10 (sq (Aj (a:=2) (b:=r) rfl rfl (by omega)) (sq (cF (a:=2*r) (b:=1) rfl rfl (by omega)) ?_))))
 obtain ⟨ch,hch⟩:∃ x,x=2*r+1:=⟨_,rfl⟩
 refine aW (zi ((ch:Nat):Int)) (by rw [hch];exact rfl) (nx (aF (rg (aN (zi ((ch:Nat):Int)) rfl (bI s2 (sq (uJ (a:=ch) (b:=hi) rfl rfl) (nx ?_)))))))
 refine cd rfl (fun c2=>?_) (fun c2=>?_)
 ·
  have c2n:=aBp c2
  refine cI ?_
  repeat (first | refine bN ?_ | refine dC rfl ?_)
  exact dP (fV (fn:=Tryz.f278) (R:=fun e W=>∃ v,e=.returned v/\KM (·=b) w W/\v=.tuple #[]/\Bk b (dE tl (Sort.siftDown bK hi first lo d)) 112 W/\(Sort.siftDown bK hi first lo d).size=N) rfl ⟨_,rfl,km1,rfl,by subst hch;rw [<- hP.2,Yf c2n];exact ⟨hR1,by omega⟩⟩)
 ·
  have c2n:=aBe c2
  refine aG (aF ?_)
  refine sD (_::_::_::_::_::_::_::_::_::_::_::_::_::_::_::_::_::_::_::(GV (decide ((ch+1)<hi)) (vE (zi (jN ((y[first+ch]!).at_) ((y[(first+ch)+1]!).at_)))))::_::_::[]) [(21,40)] [0,2,3,4,10,11] rfl ⟨aA,aA,aA,aA,aA,aD aA,aD aA,aD aA,aD aA,aD aA,aD aA,aD aA,aD aA,aD aA,aD aA,aD aA,aD aA,aD aA,aD aA,aD aA,aD aA,aA,trivial⟩ (by kernel_rfl) rfl rfl (fun Sd=>⟨
   bF Sd rfl rfl,
   aP [0] Sd rfl fun h=>cF (a:=ch) (b:=1) h.1 rfl (by omega),
   bF Sd rfl s2,
   aP [1,2] Sd rfl fun h=>AD (a:=ch+1) (b:=hi) h.1 h.2.1,
   oW [(3,22)] [] Sd rfl fun _ _ _ h _=>dv aT h.1,
   iP Sd rfl s4,
   iP Sd rfl s0,
   iP Sd rfl s3,
   iP Sd rfl rfl,
   dM [7,8] Sd rfl fun e _ h=>cF (a:=first) (b:=ch) (h.1.1 e) (h.2.1.1 e) (by have he:=aBp e;omega),
   dM [6,9] Sd rfl fun e _ h=>bB underlying67 sizeOf112 (h.1.1 e) (h.2.1.1 e) (by have he:=aBp e;omega),
   dM [10] Sd rfl fun e hT h=>bQ (h.1.1 e) (lE hR1 hT (by have he:=aBp e;omega)) rfl,
   iP Sd rfl s0,
   iP Sd rfl s3,
   iP Sd rfl rfl,
   dM [13,14] Sd rfl fun e _ h=>cF (a:=first) (b:=ch) (h.1.1 e) (h.2.1.1 e) (by have he:=aBp e;omega),
   dM [15] Sd rfl fun e _ h=>cF (a:=first+ch) (b:=1) (h.1.1 e) rfl (by have he:=aBp e;omega),
   dM [12,16] Sd rfl fun e _ h=>bB underlying67 sizeOf112 (h.1.1 e) (h.2.1.1 e) (by have he:=aBp e;omega),
   dM [17] Sd rfl fun e hT h=>bQ (h.1.1 e) (lE hR1 hT (by have he:=aBp e;omega)) rfl,
   oT [(5,24),(11,30),(18,37)] [] Sd rfl i2 gU fun e _ _ _ h _=>dG e (II (fst:=[mO]) (h.1.1 e) (wO (a2 (h.2.1.1 e) (h.2.2.1.1 e))) oP (kO y[first+ch]! y[(first+ch)+1]! _)),
   dM [19] Sd rfl fun e _ h=>eT (h.1.1 e) rfl,
   aP [4,20] Sd rfl fun h=>cG h.1 (fun c=>h.2.1.1 c),
   trivial⟩) ?_
  rintro g3 w3 k3 ⟨s40,-⟩ ⟨o0,o2,o3,o4,o10,o11,-⟩
  have s0:=o0.trans s0
  have s2:=o2.trans s2
  have s3:=o3.trans s3
  have s4:=o4.trans s4
  have s10:=o10.trans s10
  have s11:g3 11=zi ((ch:Nat):Int):=o11.trans rfl
  have hR1:=hR1.below k3
  have m4:KM (·=b) w w3:=km1.below k3
  refine cd s40 (fun c5=>?_) (fun c5=>?_)
  ·
   have c5n:=aBp (Np c5)
   refine eO (bI s11 (sq (cF (a:=ch) (b:=1) rfl rfl (by omega)) (aW (zi ((ch+1:Nat):Int)) rfl (nl (aF ?_)))))
   refine sD (_::_::_::_::_::_::_::_::_::_::_::_::_::(vE (zi (jN ((y[first+r]!).at_) ((y[first+(ch+1)]!).at_))))::_::_::[]) [(15,58)] [0,2,3,4,10,11] rfl ⟨aA,aA,aA,aA,aA,aA,aA,aA,aA,aA,aA,aA,aA,aA,aA,aA,trivial⟩ (by kernel_rfl) rfl rfl (fun Sd=>⟨
    bF Sd rfl s4,
    bF Sd rfl s0,
    bF Sd rfl s3,
    bF Sd rfl s10,
    aP [2,3] Sd rfl fun h=>cF (a:=first) (b:=r) h.1 h.2.1 (by omega),
    aP [1,4] Sd rfl fun h=>bB underlying67 sizeOf112 h.1 h.2.1 (by omega),
    fY [5] Sd rfl fun hT h=>bQ h.1 (lE hR1 hT (by omega)) rfl,
    bF Sd rfl s0,
    bF Sd rfl s3,
    bF Sd rfl rfl,
    aP [8,9] Sd rfl fun h=>cF (a:=first) (b:=ch+1) h.1 h.2.1 (by omega),
    aP [7,10] Sd rfl fun h=>bB underlying67 sizeOf112 h.1 h.2.1 (by omega),
    fY [11] Sd rfl fun hT h=>bQ h.1 (lE hR1 hT (by omega)) rfl,
    oW [(0,43),(6,49),(12,55)] [] Sd rfl fun _ _ _ h _=>II (fst:=[mO]) h.1 (wO (a2 h.2.1 h.2.2.1)) oP (kO y[first+r]! y[first+(ch+1)]! _),
    aP [13] Sd rfl fun h=>eT h.1 rfl,
    aP [14] Sd rfl fun h=>cJ h.1,
    trivial⟩) ?_
   rintro g6 w6 k6 ⟨s58,-⟩ ⟨o0,o2,o3,o4,o10,o11,-⟩
   have s0:=o0.trans s0
   have s2:=o2.trans s2
   have s3:=o3.trans s3
   have s4:=o4.trans s4
   have s10:=o10.trans s10
   have s11:g6 11=zi ((ch+1:Nat):Int):=o11.trans rfl
   have hR1:=hR1.below k6
   have m7:=m4.below k6
   refine cd s58 (fun c8=>?_) (fun c8=>?_)
   ·
    exact aE (uS (fn:=Tryz.f278) (R:=fun e W=>∃ v,e=.returned v/\KM (·=b) w W/\v=.tuple #[]/\Bk b (dE tl (Sort.siftDown bK hi first lo d)) 112 W/\(Sort.siftDown bK hi first lo d).size=N) rfl ⟨_,rfl,m7,rfl,by subst hch;rw [<- hP.2,To c2n c5 c8];exact ⟨hR1,by omega⟩⟩)
   ·
    refine aG ?_
    refine CP (fun _ _=>False) (eE (V:=_::_::_::_::_::_::_::_::_::_::_::_::_::_::_::_::_::_::_::_::_::(fun _ _=>True)::_::(fun _ _=>True)::[]) (M:=fun i=>i=b) (ch:=[21,23]) (L:=[fun W=>Bk b (dE tl y) 112 W,fun W=>Bk b (dE tl (y.setIfInBounds (first+r) y[first+(ch+1)]!)) 112 W,fun W=>Bk b (dE tl ((y.setIfInBounds (first+r) y[first+(ch+1)]!).setIfInBounds (first+(ch+1)) y[first+r]!)) 112 W]) rfl ⟨aC,aC,aC,aC,aC,aC,aC,aC,aC,aC,aC,aC,aC,aC,aC,aC,aC,aC,aC,aC,aC,fI,aC,fI,trivial⟩ rfl rfl rfl (by intro P hP a b h k;simp only [aC0,aBy,or_false] at hP;rcases hP with rfl | rfl | rfl <;> exact mQ h k)) [] [0,2,3,4,10,11] (by kernel_rfl) rfl rfl hR1 (fun _ _ _ h=>h.elim) (fun Sd=>⟨
     bF Sd rfl s0,
     bF Sd rfl s3,
     bF Sd rfl s10,
     aP [1,2] Sd rfl fun h=>cF (a:=first) (b:=r) h.1 h.2.1 (by omega),
     bF Sd rfl s0,
     bF Sd rfl s3,
     bF Sd rfl s11,
     aP [5,6] Sd rfl fun h=>cF (a:=first) (b:=ch+1) h.1 h.2.1 (by omega),
     bF Sd rfl s0,
     bF Sd rfl s3,
     bF Sd rfl s11,
     aP [9,10] Sd rfl fun h=>cF (a:=first) (b:=ch+1) h.1 h.2.1 (by omega),
     aP [8,11] Sd rfl fun h=>bB underlying67 sizeOf112 h.1 h.2.1 (by omega),
     ol [(12,71)] [] Sd rfl rfl rfl rfl (by rintro g1 w1 hT ⟨h12,-⟩ - hB0;exact dv (bQ h12 (fA hB0 (by omega)) rfl) rfl),
     bF Sd rfl s0,
     bF Sd rfl s3,
     bF Sd rfl s10,
     aP [15,16] Sd rfl fun h=>cF (a:=first) (b:=r) h.1 h.2.1 (by omega),
     aP [14,17] Sd rfl fun h=>bB underlying67 sizeOf112 h.1 h.2.1 (by omega),
     ol [(18,77)] [] Sd rfl rfl rfl rfl (by rintro g1 w1 hT ⟨h18,-⟩ - hB0;exact dv (bQ h18 (fA hB0 (by omega)) rfl) rfl),
     aP [0,3] Sd rfl fun h=>bB underlying67 sizeOf112 h.1 h.2.1 (by omega),
     oc 0 [(13,72),(20,79)] [] rfl rfl rfl (by rintro g1 w1 hT ⟨h13,h20,-⟩ - hB0;exact jF hB0 h20 h13 (by omega) (fun W hB9 O=>And.intro (aD0 O rfl) (And.intro True.intro hB9))),
     aP [4,7] Sd rfl fun h=>bB underlying67 sizeOf112 h.1 h.2.1 (by omega),
     oc 1 [(19,78),(22,80)] [] rfl rfl rfl (by rintro g1 w1 hT ⟨h19,h22,-⟩ - hB0;exact jF hB0 h22 h19 (by rw [EP];omega) (fun W hB9 O=>And.intro (aD0 O rfl) (And.intro True.intro hB9))),
     trivial⟩) ?_
    rintro g9 w9 k9 - ⟨o0,o2,o3,o4,o10,o11,-⟩ hR9
    have hR9:Bk b (dE tl (Sort.swp y (first+r) (first+(ch+1)))) 112 w9:=hR9
    have hz9:(Sort.swp y (first+r) (first+(ch+1))).size=N:=by rw [iN];omega
    have s0:=o0.trans s0
    have s2:=o2.trans s2
    have s3:=o3.trans s3
    have s4:=o4.trans s4
    have s11:=o11.trans s11
    have m10:=m7.trans k9
    exact eO (bI s11 (aW (zi ((ch+1:Nat):Int)) rfl (nl (pI (fC (by omega) ⟨(ch+1),(Sort.swp y (first+r) (first+(ch+1))),rfl,s0,s2,s3,s4,rfl,hR9,m10,(by first | omega | (simp only [iN];omega)),And.intro (by omega) (by rw [<- hP.2];subst hch;exact (Xr c2n c5 c8).symm)⟩)))))
  ·
   refine aG (aF ?_)
   refine sD (_::_::_::_::_::_::_::_::_::_::_::_::_::(vE (zi (jN ((y[first+r]!).at_) ((y[first+ch]!).at_))))::_::_::[]) [(15,58)] [0,2,3,4,10,11] rfl ⟨aA,aA,aA,aA,aA,aA,aA,aA,aA,aA,aA,aA,aA,aA,aA,aA,trivial⟩ (by kernel_rfl) rfl rfl (fun Sd=>⟨
    bF Sd rfl s4,
    bF Sd rfl s0,
    bF Sd rfl s3,
    bF Sd rfl s10,
    aP [2,3] Sd rfl fun h=>cF (a:=first) (b:=r) h.1 h.2.1 (by omega),
    aP [1,4] Sd rfl fun h=>bB underlying67 sizeOf112 h.1 h.2.1 (by omega),
    fY [5] Sd rfl fun hT h=>bQ h.1 (lE hR1 hT (by omega)) rfl,
    bF Sd rfl s0,
    bF Sd rfl s3,
    bF Sd rfl s11,
    aP [8,9] Sd rfl fun h=>cF (a:=first) (b:=ch) h.1 h.2.1 (by omega),
    aP [7,10] Sd rfl fun h=>bB underlying67 sizeOf112 h.1 h.2.1 (by omega),
    fY [11] Sd rfl fun hT h=>bQ h.1 (lE hR1 hT (by omega)) rfl,
    oW [(0,43),(6,49),(12,55)] [] Sd rfl fun _ _ _ h _=>II (fst:=[mO]) h.1 (wO (a2 h.2.1 h.2.2.1)) oP (kO y[first+r]! y[first+ch]! _),
    aP [13] Sd rfl fun h=>eT h.1 rfl,
    aP [14] Sd rfl fun h=>cJ h.1,
    trivial⟩) ?_
   rintro g11 w11 k11 ⟨s58,-⟩ ⟨o0,o2,o3,o4,o10,o11,-⟩
   have s0:=o0.trans s0
   have s2:=o2.trans s2
   have s3:=o3.trans s3
   have s4:=o4.trans s4
   have s10:=o10.trans s10
   have s11:=o11.trans s11
   have hR1:=hR1.below k11
   have m12:=m4.below k11
   refine cd s58 (fun c13=>?_) (fun c13=>?_)
   ·
    exact aE (uS (fn:=Tryz.f278) (R:=fun e W=>∃ v,e=.returned v/\KM (·=b) w W/\v=.tuple #[]/\Bk b (dE tl (Sort.siftDown bK hi first lo d)) 112 W/\(Sort.siftDown bK hi first lo d).size=N) rfl ⟨_,rfl,m12,rfl,by subst hch;rw [<- hP.2,Uc c2n c5 c13];exact ⟨hR1,by omega⟩⟩)
   ·
    refine aG ?_
    refine CP (fun _ _=>False) (eE (V:=_::_::_::_::_::_::_::_::_::_::_::_::_::_::_::_::_::_::_::_::_::(fun _ _=>True)::_::(fun _ _=>True)::[]) (M:=fun i=>i=b) (ch:=[21,23]) (L:=[fun W=>Bk b (dE tl y) 112 W,fun W=>Bk b (dE tl (y.setIfInBounds (first+r) y[first+ch]!)) 112 W,fun W=>Bk b (dE tl ((y.setIfInBounds (first+r) y[first+ch]!).setIfInBounds (first+ch) y[first+r]!)) 112 W]) rfl ⟨aC,aC,aC,aC,aC,aC,aC,aC,aC,aC,aC,aC,aC,aC,aC,aC,aC,aC,aC,aC,aC,fI,aC,fI,trivial⟩ rfl rfl rfl (by intro P hP a b h k;simp only [aC0,aBy,or_false] at hP;rcases hP with rfl | rfl | rfl <;> exact mQ h k)) [] [0,2,3,4,10,11] (by kernel_rfl) rfl rfl hR1 (fun _ _ _ h=>h.elim) (fun Sd=>⟨
     bF Sd rfl s0,
     bF Sd rfl s3,
     bF Sd rfl s10,
     aP [1,2] Sd rfl fun h=>cF (a:=first) (b:=r) h.1 h.2.1 (by omega),
     bF Sd rfl s0,
     bF Sd rfl s3,
     bF Sd rfl s11,
     aP [5,6] Sd rfl fun h=>cF (a:=first) (b:=ch) h.1 h.2.1 (by omega),
     bF Sd rfl s0,
     bF Sd rfl s3,
     bF Sd rfl s11,
     aP [9,10] Sd rfl fun h=>cF (a:=first) (b:=ch) h.1 h.2.1 (by omega),
     aP [8,11] Sd rfl fun h=>bB underlying67 sizeOf112 h.1 h.2.1 (by omega),
     ol [(12,71)] [] Sd rfl rfl rfl rfl (by rintro g1 w1 hT ⟨h12,-⟩ - hB0;exact dv (bQ h12 (fA hB0 (by omega)) rfl) rfl),
     bF Sd rfl s0,
     bF Sd rfl s3,
     bF Sd rfl s10,
     aP [15,16] Sd rfl fun h=>cF (a:=first) (b:=r) h.1 h.2.1 (by omega),
     aP [14,17] Sd rfl fun h=>bB underlying67 sizeOf112 h.1 h.2.1 (by omega),
     ol [(18,77)] [] Sd rfl rfl rfl rfl (by rintro g1 w1 hT ⟨h18,-⟩ - hB0;exact dv (bQ h18 (fA hB0 (by omega)) rfl) rfl),
     aP [0,3] Sd rfl fun h=>bB underlying67 sizeOf112 h.1 h.2.1 (by omega),
     oc 0 [(13,72),(20,79)] [] rfl rfl rfl (by rintro g1 w1 hT ⟨h13,h20,-⟩ - hB0;exact jF hB0 h20 h13 (by omega) (fun W hB9 O=>And.intro (aD0 O rfl) (And.intro True.intro hB9))),
     aP [4,7] Sd rfl fun h=>bB underlying67 sizeOf112 h.1 h.2.1 (by omega),
     oc 1 [(19,78),(22,80)] [] rfl rfl rfl (by rintro g1 w1 hT ⟨h19,h22,-⟩ - hB0;exact jF hB0 h22 h19 (by rw [EP];omega) (fun W hB9 O=>And.intro (aD0 O rfl) (And.intro True.intro hB9))),
     trivial⟩) ?_
    rintro g14 w14 k14 - ⟨o0,o2,o3,o4,o10,o11,-⟩ hR14
    have hR14:Bk b (dE tl (Sort.swp y (first+r) (first+ch))) 112 w14:=hR14
    have hz14:(Sort.swp y (first+r) (first+ch)).size=N:=by rw [iN];omega
    have s0:=o0.trans s0
    have s2:=o2.trans s2
    have s3:=o3.trans s3
    have s4:=o4.trans s4
    have s11:=o11.trans s11
    have m15:=m12.trans k14
    exact eO (bI s11 (aW (zi ((ch:Nat):Int)) rfl (nl (pI (fC (by omega) ⟨ch,(Sort.swp y (first+r) (first+ch)),rfl,s0,s2,s3,s4,rfl,hR14,m15,(by first | omega | (simp only [iN];omega)),And.intro (by omega) (by rw [<- hP.2];subst hch;exact (WX c2n c5 c13).symm)⟩)))))
theorem hb_t (h:0<k):Sort.heapBuild bK hi f k d=Sort.heapBuild bK hi f (k - 1) (Sort.siftDown bK hi f (k - 1) d):=by
 cases k with
 | zero=>omega
 | succ k=>rfl
theorem hp_t (h:0<k):Sort.heapPop bK f k d=Sort.heapPop bK f (k - 1) (Sort.siftDown bK (k - 1) f 0 (Sort.swp d f (f+(k - 1)))):=by
 cases k with
 | zero=>omega
 | succ k=>rfl
theorem hp_0 (h:k=0):Sort.heapPop bK f k d=d:=by subst h;rfl
theorem YX (h:Sort.heapBuild bK (hi - lo) lo k y=Sort.heapBuild bK (hi - lo) lo m d) (hk:k=0/\m=(hi - lo - 1) / 2+1):Sort.heapSort bK d lo hi=Sort.heapPop bK lo (hi - lo) y:=by
 obtain ⟨rfl,rfl⟩:=hk
 unfold Sort.heapSort
 rw [<- h];rfl
theorem QV (b c N) (d) (lo hi) (w) (hR:Bk b (dE tl d) 112 w) (hz:d.size=N) (hN:N<=1000000) (h1:lo<hi) (h2:hi<=N):jP (·=b) 252 [.slice (some ⟨b,0,none⟩) N c,zi (lo:Int),zi (hi:Int),FV] w fun v W=>v=.tuple #[]/\Bk b (dE tl (Sort.heapSort bK d lo hi)) 112 W/\(Sort.heapSort bK d lo hi).size=N:=by
 refine aJ (n:=60) func252 rfl ntmps252 (aA1 rfl) (rg (aN (zi ((lo:Nat):Int)) rfl (aW (zi ((lo:Nat):Int)) rfl (nx (rg (bU (nx (rg (aN (zi ((hi:Nat):Int)) rfl (aN (zi ((lo:Nat):Int)) rfl (sq (cS (a:=hi) (b:=lo) rfl rfl (by omega)) (aW (zi ((hi - lo:Nat):Int)) rfl ?_))))))))))))
 refine nx (aF (rg (aN (zi ((hi - lo:Nat):Int)) rfl (sq (cS (a:=hi - lo) (b:=1) rfl rfl (by omega)) (sq (vW (a:=(hi - lo) - 1) (b:=2) rfl rfl (by omega)) (aW (zi ((((hi - lo) - 1) / 2:Nat):Int)) rfl (nx ?_)))))))
 refine aO (lp (fun m g W=>∃ k:Nat,∃ y:Array aK,m=k/\g 0=.slice (some ⟨b,0,none⟩) N c/\g 3=.func (.func 216) ([mO]).toArray ([]).toArray/\g 8=zi ((lo:Nat):Int)/\g 9=zi (0)/\g 10=zi ((hi - lo:Nat):Int)/\g 11=zi (((k:Nat):Int) - 1)/\Bk b (dE tl y) 112 W/\KM (·=b) w W/\y.size=N/\(k<=hi - lo/\Sort.heapBuild bK (hi - lo) lo k y=Sort.heapBuild bK (hi - lo) lo ((hi - lo - 1) / 2+1) d)) _ ⟨((hi - lo - 1) / 2+1),d,rfl,rfl,rfl,rfl,rfl,rfl,(aD6 rfl (aD7 (Value.int .i64) (by omega))),hR,(aD8 _ _),(by first | omega | (simp only [iN];omega)),And.intro (by omega) rfl⟩ ?_)
 rintro m g1 w1 ⟨k,y,hme1,s0,s3,s8,s9,s10,s11,hR1,km1,hz1,hP⟩
 refine aF (rg (bI s11 (sq (nU rfl rfl) (nx ?_))))
 refine cd rfl (fun c2=>?_) (fun c2=>?_)
 ·
  have c2n:=aBp c2
  have s11x:=s11.trans (aD7 (Value.int .i64) (show ((k:Nat):Int) - 1=((k - 1:Nat):Int) by omega))
  refine aG (aF (aO (eO (bI s0 (aN (zi ((k - 1:Nat):Int)) s11x (bI s10 (bI s8 (bI s3 (By (caps:=[]) Vy rfl (ac (a5 rfl rfl rfl rfl rfl)) (GL b c N y (k - 1) (hi - lo) lo _ hR1 (by omega) hN (by omega) (by omega)) ?_)))))))))
  rintro v3 w3 k3 ⟨rfl,hR3,hz3x⟩
  have hR3:Bk b (dE tl (Sort.siftDown bK (hi - lo) lo (k - 1) y)) 112 w3:=hR3
  have m4:KM (·=b) w w3:=km1.trans k3
  exact nl (pI (eO (aN (zi ((k - 1:Nat):Int)) s11x (iJ (zi (((k - 1:Nat):Int) - 1)) (tB rfl rfl (by omega)) rfl (aW (zi (((k - 1:Nat):Int) - 1)) rfl (nl (fC (by omega) ⟨(k - 1),(Sort.siftDown bK (hi - lo) lo (k - 1) y),rfl,s0,s3,s8,s9,s10,rfl,hR3,m4,(by first | omega | (simp only [iN];omega)),And.intro (by omega) (by rw [<- hP.2];exact (hb_t (by omega)).symm)⟩)))))))
 ·
  have c2n:=aBe c2
  refine cI ?_
  repeat refine bN ?_
  refine dP (rg (bI s10 (sq (cS (a:=hi - lo) (b:=1) rfl rfl (by omega)) (aW (zi (((hi - lo) - 1:Nat):Int)) rfl (nx ?_)))))
  refine aO (lp (fun m g W=>∃ k:Nat,∃ z:Array aK,m=k/\g 0=.slice (some ⟨b,0,none⟩) N c/\g 3=.func (.func 216) ([mO]).toArray ([]).toArray/\g 8=zi ((lo:Nat):Int)/\g 9=zi (0)/\g 12=zi (((k:Nat):Int) - 1)/\Bk b (dE tl z) 112 W/\KM (·=b) w W/\z.size=N/\(k<=hi - lo/\Sort.heapPop bK lo k z=Sort.heapPop bK lo (hi - lo) y)) _ ⟨(hi - lo),y,rfl,s0,s3,s8,s9,(aD6 rfl (aD7 (Value.int .i64) (by omega))),hR1,km1,(by first | omega | (simp only [iN];omega)),And.intro (by omega) rfl⟩ ?_)
  rintro m g5 w5 ⟨k,z,hme5,s0,s3,s8,s9,s12,hR5,km5,hz5,hQ⟩
  refine aF (rg (bI s12 (sq (nU rfl rfl) (nx ?_))))
  refine cd rfl (fun c6=>?_) (fun c6=>?_)
  ·
   have c6n:=aBp c6
   have s12x:=s12.trans (aD7 (Value.int .i64) (show ((k:Nat):Int) - 1=((k - 1:Nat):Int) by omega))
   refine aG (aF (aO ?_))
   refine CP (fun _ _=>False) (eE (V:=_::_::_::_::_::_::_::_::_::_::_::_::_::_::_::_::_::(fun _ _=>True)::_::(fun _ _=>True)::[]) (M:=fun i=>i=b) (ch:=[17,19]) (L:=[fun W=>Bk b (dE tl z) 112 W,fun W=>Bk b (dE tl (z.setIfInBounds lo z[lo+(k - 1)]!)) 112 W,fun W=>Bk b (dE tl ((z.setIfInBounds lo z[lo+(k - 1)]!).setIfInBounds (lo+(k - 1)) z[lo]!)) 112 W]) rfl ⟨aC,aC,aC,aC,aC,aC,aC,aC,aC,aC,aC,aC,aC,aC,aC,aC,aC,fI,aC,fI,trivial⟩ rfl rfl rfl (by intro P hP a b h k;simp only [aC0,aBy,or_false] at hP;rcases hP with rfl | rfl | rfl <;> exact mQ h k)) [] [0,3,8,9,12] (by kernel_rfl) rfl rfl hR5 (fun _ _ _ h=>h.elim) (fun Sd=>⟨
    bF Sd rfl s0,
    bF Sd rfl s8,
    bF Sd rfl s0,
    bF Sd rfl s8,
    bF Sd rfl s12x,
    aP [3,4] Sd rfl fun h=>cF (a:=lo) (b:=k - 1) h.1 h.2.1 (by omega),
    bF Sd rfl s0,
    bF Sd rfl s8,
    bF Sd rfl s12x,
    aP [7,8] Sd rfl fun h=>cF (a:=lo) (b:=k - 1) h.1 h.2.1 (by omega),
    aP [6,9] Sd rfl fun h=>bB underlying67 sizeOf112 h.1 h.2.1 (by omega),
    ol [(10,46)] [] Sd rfl rfl rfl rfl (by rintro g1 w1 hT ⟨h10,-⟩ - hB0;exact dv (bQ h10 (fA hB0 (by omega)) rfl) rfl),
    bF Sd rfl s0,
    bF Sd rfl s8,
    aP [12,13] Sd rfl fun h=>bB underlying67 sizeOf112 h.1 h.2.1 (by omega),
    ol [(14,50)] [] Sd rfl rfl rfl rfl (by rintro g1 w1 hT ⟨h14,-⟩ - hB0;exact dv (bQ h14 (fA hB0 (by omega)) rfl) rfl),
    aP [0,1] Sd rfl fun h=>bB underlying67 sizeOf112 h.1 h.2.1 (by omega),
    oc 0 [(11,47),(16,52)] [] rfl rfl rfl (by rintro g1 w1 hT ⟨h11,h16,-⟩ - hB0;exact jF hB0 h16 h11 (by omega) (fun W hB9 O=>And.intro (aD0 O rfl) (And.intro True.intro hB9))),
    aP [2,5] Sd rfl fun h=>bB underlying67 sizeOf112 h.1 h.2.1 (by omega),
    oc 1 [(15,51),(18,53)] [] rfl rfl rfl (by rintro g1 w1 hT ⟨h15,h18,-⟩ - hB0;exact jF hB0 h18 h15 (by rw [EP];omega) (fun W hB9 O=>And.intro (aD0 O rfl) (And.intro True.intro hB9))),
    trivial⟩) ?_
   rintro g7 w7 k7 - ⟨o0,o3,o8,o9,o12,-⟩ hR7
   have hR7:Bk b (dE tl (Sort.swp z lo (lo+(k - 1)))) 112 w7:=hR7
   have hz7:(Sort.swp z lo (lo+(k - 1))).size=N:=by rw [iN];omega
   have s0:=o0.trans s0
   have s3:=o3.trans s3
   have s8:=o8.trans s8
   have s9:=o9.trans s9
   have s12:g7 12=zi ((k - 1:Nat):Int):=o12.trans s12x
   have m8:KM (·=b) w w7:=km5.trans k7
   refine eO (bI s0 (bI s9 (bI s12 (bI s8 (bI s3 (By (caps:=[]) Vy rfl (ac (a5 rfl rfl rfl rfl rfl)) (GL b c N (Sort.swp z lo (lo+(k - 1))) 0 (k - 1) lo _ hR7 (by omega) hN (by omega) (by omega)) ?_))))))
   rintro v9 w9 k9 ⟨rfl,hR9,hz9x⟩
   have hR9:Bk b (dE tl (Sort.siftDown bK (k - 1) lo 0 (Sort.swp z lo (lo+(k - 1))))) 112 w9:=hR9
   have m10:=m8.trans k9
   exact nl (pI (eO (bI s12 (iJ (zi (((k - 1:Nat):Int) - 1)) (tB rfl rfl (by omega)) rfl (aW (zi (((k - 1:Nat):Int) - 1)) rfl (nl (fC (by omega) ⟨(k - 1),(Sort.siftDown bK (k - 1) lo 0 (Sort.swp z lo (lo+(k - 1)))),rfl,s0,s3,s8,s9,rfl,hR9,m10,(by first | omega | (simp only [iN];omega)),And.intro (by omega) (by rw [<- hQ.2];exact (hp_t (by omega)).symm)⟩)))))))
  ·
   have c6n:=aBe c6
   refine cI ?_
   repeat refine bN ?_
   exact dP (fV rfl ⟨_,rfl,km5,rfl,by rw [show Sort.heapSort bK d lo hi=Sort.heapPop bK lo (hi - lo) y from YX hP.2 (by omega),<- hQ.2,hp_0 (by omega)];exact ⟨hR5,by omega⟩⟩)
theorem Ac {r:Nat × Nat × Nat} (h:Sort.order2 bK d x y n=r):((r.1=x/\r.2.1=y)\/(r.1=y/\r.2.1=x))/\r.2.2<=n+1:=by
 subst h;unfold Sort.order2;split
 ·exact ⟨.inr ⟨rfl,rfl⟩,aDl _⟩
 ·exact ⟨.inl ⟨rfl,rfl⟩,aDq _⟩
theorem Ft (b c N) (d) (x y) (n s) (w) (hR:Bk b (dE tl d) 112 w) (hz:d.size=N) (hN:N<=1000000) (hn:n<=1000) (hS:Bk s [zi ((n:Nat):Int)] 3 w) (hsb:s≠b) (hx:x<N) (hy:y<N) (r:Nat × Nat × Nat) (hr:Sort.order2 bK d x y n=r):jP (·=s) 298 [.slice (some ⟨b,0,none⟩) N c,zi (x:Int),zi (y:Int),pt s 0,FV] w fun v W=>v=.tuple #[zi ((r.1:Nat):Int),zi ((r.2.1:Nat):Int)]/\Bk s [zi ((r.2.2:Nat):Int)] 3 W:=by
 refine aJ (n:=32) func298 rfl ntmps298 (aA1 rfl) (rg (bU (bU (nx (aF ?_)))))
 refine sD ((vE (.func (.func 216) ([mO]).toArray ([]).toArray))::(vE (.slice (some ⟨b,0,none⟩) N c))::(vE (zi ((y:Nat):Int)))::(vE (pt b (0+y*2)))::(vE (.agg (aK.cells d[y]!).toArray))::(vE (.slice (some ⟨b,0,none⟩) N c))::(vE (zi ((x:Nat):Int)))::(vE (pt b (0+x*2)))::(vE (.agg (aK.cells d[x]!).toArray))::(vE (zi (jN ((d[y]!).at_) ((d[x]!).at_))))::(vE (.bool (bK d[y]! d[x]!)))::[]) [(10,22)] [1,2,3,10,11] rfl ⟨aA,aA,aA,aA,aA,aA,aA,aA,aA,aA,aA,trivial⟩ (by kernel_rfl) rfl rfl (fun Sd=>⟨
  bF Sd rfl rfl,
  bF Sd rfl rfl,
  bF Sd rfl rfl,
  aP [1,2] Sd rfl fun h=>bB underlying67 sizeOf112 h.1 h.2.1 (by omega),
  fY [3] Sd rfl fun hT h=>bQ h.1 (lE hR hT (by omega)) rfl,
  bF Sd rfl rfl,
  bF Sd rfl rfl,
  aP [5,6] Sd rfl fun h=>bB underlying67 sizeOf112 h.1 h.2.1 (by omega),
  fY [7] Sd rfl fun hT h=>bQ h.1 (lE hR hT (by omega)) rfl,
  oW [(0,12),(4,16),(8,20)] [] Sd rfl fun _ _ _ h _=>II (fst:=[mO]) h.1 (wO (a2 h.2.1 h.2.2.1)) oP (kO d[y]! d[x]! _),
  aP [9] Sd rfl fun h=>eT h.1 rfl,
  trivial⟩) ?_
 rintro g1 w1 k1 ⟨s22,-⟩ ⟨o1,o2,o3,o10,o11,-⟩
 have s22:g1 22=.bool (bK d[y]! d[x]!):=s22
 have s1:g1 1=zi ((x:Nat):Int):=o1.trans rfl
 have s2:g1 2=zi ((y:Nat):Int):=o2.trans rfl
 have s3:g1 3=pt s (0):=o3.trans rfl
 have hS:=hS.below k1
 have m2:KM (·=s) w w1:=aDr k1
 refine cd (t:=bK d[y]! d[x]!) s22 (fun c3=>?_) (fun c3=>?_)
 ·
  refine rg (bI s3 (sq (dF rfl) (sq (EI rfl (hS.cell 0 rfl)) (sq (cF (a:=n) (b:=1) rfl rfl (by omega)) (sq (dF rfl) (eP hS sizeOf3 rfl rfl rfl rfl fun w4 hSn O4 z4 =>?_))))))
  replace hS:=hSn
  have m5:=m2.only O4 (.inl rfl)
  exact nx (rg (bI s2 (bI s1 (aW (zi ((y:Nat):Int)) rfl (aW (zi ((x:Nat):Int)) rfl (nx (aE (wJ (fn:=Tryz.f298) (R:=fun e W=>∃ v,e=.returned v/\KM (·=s) w W/\v=.tuple #[zi ((r.1:Nat):Int),zi ((r.2.1:Nat):Int)]/\Bk s [zi ((r.2.2:Nat):Int)] 3 W) rfl ⟨_,rfl,m5,by rw [<- hr,show Sort.order2 bK d x y n=(y,x,n+1) from aEc c3];exact ⟨pY rfl rfl,hS⟩⟩))))))))
 ·
  exact aG (rg (bI s1 (bI s2 (aW (zi ((x:Nat):Int)) rfl (aW (zi ((y:Nat):Int)) rfl (nx (aE (wJ (fn:=Tryz.f298) (R:=fun e W=>∃ v,e=.returned v/\KM (·=s) w W/\v=.tuple #[zi ((r.1:Nat):Int),zi ((r.2.1:Nat):Int)]/\Bk s [zi ((r.2.2:Nat):Int)] 3 W) rfl ⟨_,rfl,m2,by rw [<- hr,show Sort.order2 bK d x y n=(x,y,n) from aEd (by rw [c3];exact aBf)];exact ⟨pY rfl rfl,hS⟩⟩))))))))
theorem zA {x y z n N:Nat} {q:Nat × Nat} (h:Sort.median bK d x y z n=q) (hx:x<N) (hy:y<N) (hz:z<N):q.1<N/\q.2<=n+3:=by
 subst h
 unfold Sort.median
 have h1:=Ac (rfl:Sort.order2 bK d x y n=_)
 generalize Sort.order2 bK d x y n=r1 at h1 ⊢
 have h2:=Ac (rfl:Sort.order2 bK d r1.2.1 z r1.2.2=_)
 try simp only
 generalize Sort.order2 bK d r1.2.1 z r1.2.2=r2 at h2 ⊢
 have h3:=Ac (rfl:Sort.order2 bK d r1.1 r2.1 r2.2.2=_)
 generalize Sort.order2 bK d r1.1 r2.1 r2.2.2=r3 at h3 ⊢
 try simp only
 omega
theorem Fu (b c N) (d) (x y z) (n s) (w) (hR:Bk b (dE tl d) 112 w) (hz:d.size=N) (hN:N<=1000000) (hn:n<=1000) (hS:Bk s [zi ((n:Nat):Int)] 3 w) (hsb:s≠b) (hx:x<N) (hy:y<N) (hzz:z<N) (hn2:n<=990) (q:Nat × Nat) (hq:Sort.median bK d x y z n=q):jP (·=s) 282 [.slice (some ⟨b,0,none⟩) N c,zi (x:Int),zi (y:Int),zi (z:Int),pt s 0,FV] w fun v W=>v=zi ((q.1:Nat):Int)/\Bk s [zi ((q.2:Nat):Int)] 3 W:=by
 refine aJ (n:=41) func282 rfl ntmps282 (aA1 rfl) (rg (bU (nx (rg (aN (.slice (some ⟨b,0,none⟩) N c) rfl (aN (zi ((x:Nat):Int)) rfl (aN (zi ((y:Nat):Int)) rfl (aN (pt s (0)) rfl (aN (.func (.func 216) ([mO]).toArray ([]).toArray) rfl ?_)))))))))
 obtain ⟨r1,hr1⟩:∃ r,Sort.order2 bK d x y n=r:=⟨_,rfl⟩
 have hi1:=Ac hr1
 refine By (caps:=[]) Rs rfl (ac (a5 rfl rfl rfl rfl rfl)) (Ft b c N d x y n s _ hR hz hN (by omega) hS hsb (by omega) (by omega) r1 hr1) ?_
 rintro v1 w1 k1 ⟨rfl,hS1⟩
 have m2:KM (·=s) w w1:=k1
 have hR:=hR.km k1 (fun e=>hsb e.symm)
 refine aN (.tuple #[zi ((r1.1:Nat):Int),zi ((r1.2.1:Nat):Int)]) rfl (sq (dT rfl rfl) (sq (dT rfl rfl) (aW (zi ((r1.1:Nat):Int)) rfl (aW (zi ((r1.2.1:Nat):Int)) rfl (nx (rg (aN (.slice (some ⟨b,0,none⟩) N c) rfl (aN (zi ((r1.2.1:Nat):Int)) rfl (aN (zi ((z:Nat):Int)) rfl (aN (pt s (0)) rfl (aN (.func (.func 216) ([mO]).toArray ([]).toArray) rfl ?_)))))))))))
 obtain ⟨r3,hr3⟩:∃ r,Sort.order2 bK d r1.2.1 z r1.2.2=r:=⟨_,rfl⟩
 have hi3:=Ac hr3
 refine By (caps:=[]) Rs rfl (ac (a5 rfl rfl rfl rfl rfl)) (Ft b c N d r1.2.1 z r1.2.2 s _ hR hz hN (by omega) hS1 hsb (by omega) (by omega) r3 hr3) ?_
 rintro v3 w3 k3 ⟨rfl,hS3⟩
 have m4:=m2.trans k3
 have hR:=hR.km k3 (fun e=>hsb e.symm)
 refine aN (.tuple #[zi ((r3.1:Nat):Int),zi ((r3.2.1:Nat):Int)]) rfl (sq (dT rfl rfl) (sq (dT rfl rfl) (aW (zi ((r3.1:Nat):Int)) rfl (aW (zi ((r3.2.1:Nat):Int)) rfl (nx (rg (aN (.slice (some ⟨b,0,none⟩) N c) rfl (aN (zi ((r1.1:Nat):Int)) rfl (aN (zi ((r3.1:Nat):Int)) rfl (aN (pt s (0)) rfl (aN (.func (.func 216) ([mO]).toArray ([]).toArray) rfl ?_)))))))))))
 obtain ⟨r5,hr5⟩:∃ r,Sort.order2 bK d r1.1 r3.1 r3.2.2=r:=⟨_,rfl⟩
 have hi5:=Ac hr5
 refine By (caps:=[]) Rs rfl (ac (a5 rfl rfl rfl rfl rfl)) (Ft b c N d r1.1 r3.1 r3.2.2 s _ hR hz hN (by omega) hS3 hsb (by omega) (by omega) r5 hr5) ?_
 rintro v5 w5 k5 ⟨rfl,hS5⟩
 have m6:=m4.trans k5
 exact aN (.tuple #[zi ((r5.1:Nat):Int),zi ((r5.2.1:Nat):Int)]) rfl (sq (dT rfl rfl) (sq (dT rfl rfl) (aW (zi ((r5.1:Nat):Int)) rfl (aW (zi ((r5.2.1:Nat):Int)) rfl (nx (rg (aN (zi ((r5.2.1:Nat):Int)) rfl (aW (zi ((r5.2.1:Nat):Int)) rfl (nx (aE (fO rfl ⟨_,rfl,m6,by subst hr1 hr3 hr5 hq;exact ⟨rfl,hS5⟩⟩)))))))))))
theorem Fb (b c N) (d) (x) (n s) (w) (hR:Bk b (dE tl d) 112 w) (hz:d.size=N) (hN:N<=1000000) (hn:n<=1000) (hS:Bk s [zi ((n:Nat):Int)] 3 w) (hsb:s≠b) (hx0:0<x) (hx:x+1<N) (hn2:n<=990) (q:Nat × Nat) (hq:Sort.medianAdjacent bK d x n=q):jP (·=s) 281 [.slice (some ⟨b,0,none⟩) N c,zi (x:Int),pt s 0,FV] w fun v W=>v=zi ((q.1:Nat):Int)/\Bk s [zi ((q.2:Nat):Int)] 3 W:=by
 refine aJ (n:=18) func281 rfl ntmps281 (aA1 rfl) (rg (bU (nx (rg (aN (.slice (some ⟨b,0,none⟩) N c) rfl (aN (zi ((x:Nat):Int)) rfl (sq (cS (a:=x) (b:=1) rfl rfl (by omega)) (aN (zi ((x:Nat):Int)) rfl (aN (zi ((x:Nat):Int)) rfl (sq (cF (a:=x) (b:=1) rfl rfl (by omega)) (aN (pt s (0)) rfl (aN (.func (.func 216) ([mO]).toArray ([]).toArray) rfl ?_))))))))))))
 obtain ⟨q1,hq1⟩:∃ q,Sort.median bK d (x - 1) x (x+1) n=q:=⟨_,rfl⟩
 have hi1:=zA (N:=N) hq1 (by omega) (by omega) (by omega)
 refine By (caps:=[]) Pu rfl (ac (a6 rfl rfl rfl rfl rfl rfl)) (Fu b c N d (x - 1) x (x+1) n s _ hR hz hN (by omega) hS hsb (by omega) (by omega) (by omega) (by omega) q1 hq1) ?_
 rintro v1 w1 k1 ⟨rfl,hS1⟩
 have m2:KM (·=s) w w1:=k1
 exact aW (zi ((q1.1:Nat):Int)) rfl (nx (aE (fO rfl ⟨_,rfl,m2,by subst hq1 hq;exact ⟨rfl,hS1⟩⟩)))
def pA:Sort.Hint->Int
 | .unknown=>0
 | .increasing=>1
 | .decreasing=>2
def sJ (n:Nat):Sort.Hint:=if n=0 then .increasing else if n=12 then .decreasing else .unknown
section
variable {d:Array aK} {lo hi:Nat} {q q1 q2 q3:Nat × Nat}
theorem cp_s (h:¬ 8<=hi - lo):Sort.choosePivot bK d lo hi=(lo+(hi - lo) / 4*2,.increasing):=by
 unfold Sort.choosePivot
 simp only [ge_iff_le,aEd h,if_true]
theorem WM (h:8<=hi - lo) (h2:¬ 50<=hi - lo) (hq:Sort.median bK d (lo+(hi - lo) / 4*1) (lo+(hi - lo) / 4*2) (lo+(hi - lo) / 4*3) 0=q):Sort.choosePivot bK d lo hi=(q.1,sJ q.2):=by
 unfold Sort.choosePivot
 simp only [ge_iff_le,aEc h,aEd h2,hq]
 rfl
theorem XE (h2:50<=hi - lo) (hq1:Sort.medianAdjacent bK d (lo+(hi - lo) / 4*1) 0=q1) (hq2:Sort.medianAdjacent bK d (lo+(hi - lo) / 4*2) q1.2=q2) (hq3:Sort.medianAdjacent bK d (lo+(hi - lo) / 4*3) q2.2=q3) (hq:Sort.median bK d q1.1 q2.1 q3.1 q3.2=q):Sort.choosePivot bK d lo hi=(q.1,sJ q.2):=by
 unfold Sort.choosePivot
 simp only [ge_iff_le,aEc (show 8<=hi - lo by omega),aEc h2,hq1,hq2,hq3,hq]
 rfl
end
theorem Uh (b c N) (d) (lo hi) (w) (hR:Bk b (dE tl d) 112 w) (hz:d.size=N) (hN:N<=1000000) (h1:lo<hi) (h2:hi<=N) (r:Nat × Sort.Hint) (hr:Sort.choosePivot bK d lo hi=r):cT 254 [.slice (some ⟨b,0,none⟩) N c,zi (lo:Int),zi (hi:Int),FV] w fun v _=>v=.tuple #[zi ((r.1:Nat):Int),zi (pA r.2)]:=by
 refine aJ (n:=63) func254 rfl ntmps254 (aA1 rfl) (rg (bU (bU (nx (rg (aN (zi ((hi:Nat):Int)) rfl (aN (zi ((lo:Nat):Int)) rfl (sq (cS (a:=hi) (b:=lo) rfl rfl (by omega)) ?_))))))))
 obtain ⟨l,hl⟩:∃ x,x=hi - lo:=⟨_,rfl⟩
 refine aW (zi ((l:Nat):Int)) (by rw [hl];exact rfl) (nx (rg (eA (cs:=[zi 0]) zeroValue3 rfl fun w1 hS k1 z1 =>?_)))
 have hsb:w.heap.size≠b:=(aC8 hR.lt).symm
 have hR:=hR.below k1
 have m1:KM (·=w.heap.size) w w1:=aDr k1
 refine nx (rg (aN (zi ((lo:Nat):Int)) rfl (aN (zi ((l:Nat):Int)) rfl (sq (vW (a:=l) (b:=4) rfl rfl (by omega)) (sq (Aj (a:=l / 4) (b:=1) rfl rfl (by omega)) (sq (cF (a:=lo) (b:=(l / 4)*1) rfl rfl (by omega)) ?_))))))
 obtain ⟨i1,hi1⟩:∃ x,x=lo+((l / 4)*1):=⟨_,rfl⟩
 refine aW (zi ((i1:Nat):Int)) (by rw [hi1];exact rfl) (nx (rg (aN (zi ((lo:Nat):Int)) rfl (aN (zi ((l:Nat):Int)) rfl (sq (vW (a:=l) (b:=4) rfl rfl (by omega)) (sq (Aj (a:=l / 4) (b:=2) rfl rfl (by omega)) (sq (cF (a:=lo) (b:=(l / 4)*2) rfl rfl (by omega)) ?_)))))))
 obtain ⟨i2,hi2⟩:∃ x,x=lo+((l / 4)*2):=⟨_,rfl⟩
 refine aW (zi ((i2:Nat):Int)) (by rw [hi2];exact rfl) (nx (rg (aN (zi ((lo:Nat):Int)) rfl (aN (zi ((l:Nat):Int)) rfl (sq (vW (a:=l) (b:=4) rfl rfl (by omega)) (sq (Aj (a:=l / 4) (b:=3) rfl rfl (by omega)) (sq (cF (a:=lo) (b:=(l / 4)*3) rfl rfl (by omega)) ?_)))))))
 obtain ⟨i3,hi3⟩:∃ x,x=lo+((l / 4)*3):=⟨_,rfl⟩
 refine aW (zi ((i3:Nat):Int)) (by rw [hi3];exact rfl) (nx (aF (rg (aN (zi ((l:Nat):Int)) rfl (sq (uJ (a:=l) (b:=8) rfl rfl) (nx ?_))))))
 refine cd rfl (fun c2=>?_) (fun c2=>?_)
 ·
  have c2n:=aBp c2
  refine aF (rg (aN (zi ((l:Nat):Int)) rfl (sq (uJ (a:=l) (b:=50) rfl rfl) (nx ?_))))
  refine cd rfl (fun c3=>?_) (fun c3=>?_)
  ·
   have c3n:=aBp c3
   refine rg (aN (.slice (some ⟨b,0,none⟩) N c) rfl (aN (zi ((i1:Nat):Int)) rfl (aN (.func (.func 216) ([mO]).toArray ([]).toArray) rfl ?_)))
   obtain ⟨q4,hq4⟩:∃ q,Sort.medianAdjacent bK d i1 (0)=q:=⟨_,rfl⟩
   have hi4:=zA (N:=N) hq4 (by omega) (by omega) (by omega)
   refine By (caps:=[]) Re rfl (ac (a4 rfl rfl rfl rfl)) (Fb b c N d i1 (0) w.heap.size _ hR hz hN (by omega) hS hsb (by omega) (by omega) (by omega) q4 hq4) ?_
   rintro v4 w4 k4 ⟨rfl,hS4⟩
   have m5:KM (·=w.heap.size) w w4:=m1.trans k4
   have hR:=hR.km k4 (fun e=>hsb e.symm)
   refine aW (zi ((q4.1:Nat):Int)) rfl (nx (rg (aN (.slice (some ⟨b,0,none⟩) N c) rfl (aN (zi ((i2:Nat):Int)) rfl (aN (.func (.func 216) ([mO]).toArray ([]).toArray) rfl ?_)))))
   obtain ⟨q6,hq6⟩:∃ q,Sort.medianAdjacent bK d i2 q4.2=q:=⟨_,rfl⟩
   have hi6:=zA (N:=N) hq6 (by omega) (by omega) (by omega)
   refine By (caps:=[]) Re rfl (ac (a4 rfl rfl rfl rfl)) (Fb b c N d i2 q4.2 w.heap.size _ hR hz hN (by omega) hS4 hsb (by omega) (by omega) (by omega) q6 hq6) ?_
   rintro v6 w6 k6 ⟨rfl,hS6⟩
   have m7:KM (·=w.heap.size) w w6:=m5.trans k6
   have hR:=hR.km k6 (fun e=>hsb e.symm)
   refine aW (zi ((q6.1:Nat):Int)) rfl (nx (eO (aN (.slice (some ⟨b,0,none⟩) N c) rfl (aN (zi ((i3:Nat):Int)) rfl (aN (.func (.func 216) ([mO]).toArray ([]).toArray) rfl ?_)))))
   obtain ⟨q8,hq8⟩:∃ q,Sort.medianAdjacent bK d i3 q6.2=q:=⟨_,rfl⟩
   have hi8:=zA (N:=N) hq8 (by omega) (by omega) (by omega)
   refine By (caps:=[]) Re rfl (ac (a4 rfl rfl rfl rfl)) (Fb b c N d i3 q6.2 w.heap.size _ hR hz hN (by omega) hS6 hsb (by omega) (by omega) (by omega) q8 hq8) ?_
   rintro v8 w8 k8 ⟨rfl,hS8⟩
   have m9:KM (·=w.heap.size) w w8:=m7.trans k8
   have hR:=hR.km k8 (fun e=>hsb e.symm)
   refine aW (zi ((q8.1:Nat):Int)) rfl (nl (eO (aN (.slice (some ⟨b,0,none⟩) N c) rfl (aN (zi ((q4.1:Nat):Int)) rfl (aN (zi ((q6.1:Nat):Int)) rfl (aN (zi ((q8.1:Nat):Int)) rfl (aN (.func (.func 216) ([mO]).toArray ([]).toArray) rfl ?_)))))))
   obtain ⟨q10,hq10⟩:∃ q,Sort.median bK d q4.1 q6.1 q8.1 q8.2=q:=⟨_,rfl⟩
   have hi10:=zA (N:=N) hq10 (by omega) (by omega) (by omega)
   refine By (caps:=[]) Pu rfl (ac (a6 rfl rfl rfl rfl rfl rfl)) (Fu b c N d q4.1 q6.1 q8.1 q8.2 w.heap.size _ hR hz hN (by omega) hS8 hsb (by omega) (by omega) (by omega) (by omega) q10 hq10) ?_
   rintro v10 w10 k10 ⟨rfl,hS10⟩
   have m11:KM (·=w.heap.size) w w10:=m9.trans k10
   refine aW (zi ((q10.1:Nat):Int)) rfl (nl (rg (sq (EI rfl (hS10.cell 0 rfl)) (nx (aO (rg (sq (AL (a:=q10.2) (b:=0) rfl rfl) (aW (.bool (decide (q10.2=0))) rfl (nx ?_)))))))))
   refine cd rfl (fun c12=>?_) (fun c12=>?_)
   ·
    have c12n:=aBp c12
    refine rg (aN (zi ((q10.1:Nat):Int)) rfl (aW (zi ((q10.1:Nat):Int)) rfl (bU (nx (aE ?_)))))
    subst hi1 hi2 hi3 hl
    exact wJ (fn:=Tryz.f254) (R:=fun e W=>∃ v,e=.returned v/\Below w.heap.size w W/\v=.tuple #[zi ((r.1:Nat):Int),zi (pA r.2)]) rfl ⟨_,rfl,aDs m11 (aDt _ _) (aDl _) (fun i hi=>by have:i=w.heap.size:=hi;omega),by rw [<- hr,XE (by omega) hq4 hq6 hq8 hq10];unfold sJ;rw [aEc c12n];exact pY rfl rfl⟩
   ·
    have c12n:=aBe c12
    refine rg (sq (AL (a:=q10.2) (b:=12) rfl rfl) (aW (.bool (decide (q10.2=12))) rfl (nx ?_)))
    refine cd rfl (fun c13=>?_) (fun c13=>?_)
    ·
     have c13n:=aBp c13
     refine rg (aN (zi ((q10.1:Nat):Int)) rfl (aW (zi ((q10.1:Nat):Int)) rfl (bU (nx (aE ?_)))))
     subst hi1 hi2 hi3 hl
     exact wJ (fn:=Tryz.f254) (R:=fun e W=>∃ v,e=.returned v/\Below w.heap.size w W/\v=.tuple #[zi ((r.1:Nat):Int),zi (pA r.2)]) rfl ⟨_,rfl,aDs m11 (aDt _ _) (aDl _) (fun i hi=>by have:i=w.heap.size:=hi;omega),by rw [<- hr,XE (by omega) hq4 hq6 hq8 hq10];unfold sJ;rw [aEd c12n,aEc c13n];exact pY rfl rfl⟩
    ·
     have c13n:=aBe c13
     refine rg (aN (zi ((q10.1:Nat):Int)) rfl (aW (zi ((q10.1:Nat):Int)) rfl (bU (nx (aE ?_)))))
     subst hi1 hi2 hi3 hl
     exact wJ (fn:=Tryz.f254) (R:=fun e W=>∃ v,e=.returned v/\Below w.heap.size w W/\v=.tuple #[zi ((r.1:Nat):Int),zi (pA r.2)]) rfl ⟨_,rfl,aDs m11 (aDt _ _) (aDl _) (fun i hi=>by have:i=w.heap.size:=hi;omega),by rw [<- hr,XE (by omega) hq4 hq6 hq8 hq10];unfold sJ;rw [aEd c12n,aEd c13n];exact pY rfl rfl⟩
  ·
   have c3n:=aBe c3
   refine aG (eO (aN (.slice (some ⟨b,0,none⟩) N c) rfl (aN (zi ((i1:Nat):Int)) rfl (aN (zi ((i2:Nat):Int)) rfl (aN (zi ((i3:Nat):Int)) rfl (aN (.func (.func 216) ([mO]).toArray ([]).toArray) rfl ?_))))))
   obtain ⟨q14,hq14⟩:∃ q,Sort.median bK d i1 i2 i3 (0)=q:=⟨_,rfl⟩
   have hi14:=zA (N:=N) hq14 (by omega) (by omega) (by omega)
   refine By (caps:=[]) Pu rfl (ac (a6 rfl rfl rfl rfl rfl rfl)) (Fu b c N d i1 i2 i3 (0) w.heap.size _ hR hz hN (by omega) hS hsb (by omega) (by omega) (by omega) (by omega) q14 hq14) ?_
   rintro v14 w14 k14 ⟨rfl,hS14⟩
   have m15:KM (·=w.heap.size) w w14:=m1.trans k14
   refine aW (zi ((q14.1:Nat):Int)) rfl (nl (rg (sq (EI rfl (hS14.cell 0 rfl)) (nx (aO (rg (sq (AL (a:=q14.2) (b:=0) rfl rfl) (aW (.bool (decide (q14.2=0))) rfl (nx ?_)))))))))
   refine cd rfl (fun c16=>?_) (fun c16=>?_)
   ·
    have c16n:=aBp c16
    refine rg (aN (zi ((q14.1:Nat):Int)) rfl (aW (zi ((q14.1:Nat):Int)) rfl (bU (nx (aE ?_)))))
    subst hi1 hi2 hi3 hl
    exact wJ (fn:=Tryz.f254) (R:=fun e W=>∃ v,e=.returned v/\Below w.heap.size w W/\v=.tuple #[zi ((r.1:Nat):Int),zi (pA r.2)]) rfl ⟨_,rfl,aDs m15 (aDt _ _) (aDl _) (fun i hi=>by have:i=w.heap.size:=hi;omega),by rw [<- hr,WM (by omega) (by omega) hq14];unfold sJ;rw [aEc c16n];exact pY rfl rfl⟩
   ·
    have c16n:=aBe c16
    refine rg (sq (AL (a:=q14.2) (b:=12) rfl rfl) (aW (.bool (decide (q14.2=12))) rfl (nx ?_)))
    refine cd rfl (fun c17=>?_) (fun c17=>?_)
    ·
     have c17n:=aBp c17
     refine rg (aN (zi ((q14.1:Nat):Int)) rfl (aW (zi ((q14.1:Nat):Int)) rfl (bU (nx (aE ?_)))))
     subst hi1 hi2 hi3 hl
     exact wJ (fn:=Tryz.f254) (R:=fun e W=>∃ v,e=.returned v/\Below w.heap.size w W/\v=.tuple #[zi ((r.1:Nat):Int),zi (pA r.2)]) rfl ⟨_,rfl,aDs m15 (aDt _ _) (aDl _) (fun i hi=>by have:i=w.heap.size:=hi;omega),by rw [<- hr,WM (by omega) (by omega) hq14];unfold sJ;rw [aEd c16n,aEc c17n];exact pY rfl rfl⟩
    ·
     have c17n:=aBe c17
     refine rg (aN (zi ((q14.1:Nat):Int)) rfl (aW (zi ((q14.1:Nat):Int)) rfl (bU (nx (aE ?_)))))
     subst hi1 hi2 hi3 hl
     exact wJ (fn:=Tryz.f254) (R:=fun e W=>∃ v,e=.returned v/\Below w.heap.size w W/\v=.tuple #[zi ((r.1:Nat):Int),zi (pA r.2)]) rfl ⟨_,rfl,aDs m15 (aDt _ _) (aDl _) (fun i hi=>by have:i=w.heap.size:=hi;omega),by rw [<- hr,WM (by omega) (by omega) hq14];unfold sJ;rw [aEd c16n,aEd c17n];exact pY rfl rfl⟩
 ·
  have c2n:=aBe c2
  refine aG (rg (sq (EI rfl (hS.cell 0 rfl)) (nx (aO (rg (sq (AL (a:=0) (b:=0) rfl rfl) (aW (.bool (decide (0=0))) rfl (nx ?_))))))))
  refine cd rfl (fun c18=>?_) (fun c18=>?_)
  ·
   have c18n:=aBp c18
   refine rg (aN (zi ((i2:Nat):Int)) rfl (aW (zi ((i2:Nat):Int)) rfl (bU (nx (aE ?_)))))
   subst hi1 hi2 hi3 hl
   exact wJ (fn:=Tryz.f254) (R:=fun e W=>∃ v,e=.returned v/\Below w.heap.size w W/\v=.tuple #[zi ((r.1:Nat):Int),zi (pA r.2)]) rfl ⟨_,rfl,aDs m1 (aDt _ _) (aDl _) (fun i hi=>by have:i=w.heap.size:=hi;omega),by rw [<- hr,cp_s (by omega)];exact pY rfl rfl⟩
  ·
   have c18n:=aBe c18
   refine rg (sq (AL (a:=0) (b:=12) rfl rfl) (aW (.bool (decide (0=12))) rfl (nx ?_)))
   refine cd rfl (fun c19=>?_) (fun c19=>?_)
   ·
    have c19n:=aBp c19
    exact rg (aN (zi ((i2:Nat):Int)) rfl (aW (zi ((i2:Nat):Int)) rfl (bU (nx (aE (absurd rfl c18n))))))
   ·
    have c19n:=aBe c19
    exact rg (aN (zi ((i2:Nat):Int)) rfl (aW (zi ((i2:Nat):Int)) rfl (bU (nx (aE (absurd rfl c18n))))))
theorem Cw {g:Nat->Value} {ty:TypeId} (hx:ev n g x=.pointer (some ad)) (hc:w.cell? ad=some v):aL n g ⟨dd,.load 364 x,ty,pos,aft,gd⟩ w v:=lR isAgg364 hx hc
theorem XL: ∀ n,n<2 ^ 64->Lib.bitLen n=Sort.bitsLen n:=by
 intro n
 induction n using Nat.strongRecOn with
 | _ n ih=>
  intro h
  by_cases h0:n=0
  ·subst h0;rfl
  ·rw [Lib.bitLen_half n h0 h,ih (n / 2) (by omega) (by omega)]
   unfold Sort.bitsLen
   rw [aEd h0]
   by_cases h1:n=1
   ·subst h1;rfl
   ·rw [aEd (by omega),show n.log2=(n / 2).log2+1 by rw [Nat.log2_def n,aEc (by omega)]];omega
theorem oZ {a:Nat} (h:a<18446744073709551616):IntKind.u64.wrap (a:Int)=(a:Int):=by rw [aCa];omega
theorem bvN (a:Nat):BitVec.ofInt 64 (a:Int)=BitVec.ofNat 64 a:=by
 apply BitVec.eq_of_toNat_eq;simp [BitVec.toNat_ofInt,aBo]
theorem YN {a b:Nat} (ha:a<18446744073709551616) (hb:b<18446744073709551616):Nf .u64 (a:Int) (b:Int)=((a &&& b:Nat):Int):=by
 unfold Nf
 show IntKind.u64.wrap (((BitVec.ofInt 64 (a:Int) &&& BitVec.ofInt 64 (b:Int)).toNat:Nat):Int)=_
 rw [bvN,bvN,BitVec.toNat_and,aBo,aBo,aCg (by omega),aCg (by omega)]
 exact oZ (aBg Nat.and_le_right hb)
theorem QQ (a b:UInt64):Lu .u64 (a.toNat:Int) (b.toNat:Int)=(((a ^^^ b).toNat:Nat):Int):=by
 unfold Lu
 show IntKind.u64.wrap (((BitVec.ofInt 64 (a.toNat:Int) ^^^ BitVec.ofInt 64 (b.toNat:Int)).toNat:Nat):Int)=_
 have ha:=a.toNat_lt;have hb:=b.toNat_lt
 rw [bvN,bvN,BitVec.toNat_xor,aBo,aBo,aCg (by omega),aCg (by omega),UInt64.toNat_xor]
 exact oZ (Nat.xor_lt_two_pow (n:=64) ha hb)
theorem Wh (a k:UInt64) (hk:k.toNat<64):yT .u64 (a.toNat:Int) (k.toNat:Int)=(((a <<< k).toNat:Nat):Int):=by
 unfold yT
 rw [UInt64.toNat_shiftLeft,aCg hk,Nat.shiftLeft_eq]
 show IntKind.u64.wrap ((a.toNat:Int)*2 ^ (min (k.toNat:Int).toNat 64))=_
 rw [Int.toNat_natCast,aCt (by omega),aCa]
 simp [Int.natCast_emod,Int.natCast_mul,Int.natCast_pow]
theorem YK (a k:UInt64) (hk:k.toNat<64):LE .u64 (a.toNat:Int) (k.toNat:Int)=(((a >>> k).toNat:Nat):Int):=by
 unfold LE
 rw [UInt64.toNat_shiftRight,aCg hk,Nat.shiftRight_eq_div_pow]
 show Int.fdiv (a.toNat:Int) (2 ^ (min (k.toNat:Int).toNat 64))=_
 rw [Int.toNat_natCast,aCt (by omega),Int.fdiv_eq_ediv_of_nonneg _ (by exact_mod_cast aDm _)]
 simp [Int.natCast_ediv,Int.natCast_pow]
theorem Vd (s) (r:UInt64) (w) (hS:Bk s [.int .u64 ((r.toNat:Nat):Int)] 364 w):jP (·=s) 280 [pt s 0] w fun v W=>v=.int .u64 (((Sort.xorNext r).toNat:Nat):Int)/\Bk s [.int .u64 (((Sort.xorNext r).toNat:Nat):Int)] 364 W:=by
 refine aJ (n:=33) func280 rfl ntmps280 (aA1 rfl) (rg (aW (.int .u64 (0)) rfl (nx ?_)))
 refine YF 9 (_::_::_::_::_::_::_::_::_::[]) [(7,10),(8,11)] [0,2] rfl rfl ⟨aA,aA,aA,aA,aA,aA,aA,aA,aA,trivial⟩ (by kernel_rfl) rfl rfl rfl rfl rfl (fun Sd=>⟨
  bF Sd rfl rfl,
  aP [0] Sd rfl fun h=>dF h.1,
  fY [1] Sd rfl fun hT h=>Cw h.1 ((hS.below hT).cell 0 rfl),
  bF Sd rfl rfl,
  aP [3] Sd rfl fun h=>dF h.1,
  fY [4] Sd rfl fun hT h=>Cw h.1 ((hS.below hT).cell 0 rfl),
  oW [(5,8)] [] Sd rfl fun _ _ _ h _=>dv (Kz h.1 rfl (by decide)) (aD7 (Value.int .u64) (Wh r 13 (by decide))),
  oW [(2,5),(6,9)] [] Sd rfl fun _ _ _ h _=>dv (EL h.1 h.2.1) (aD7 (Value.int .u64) (QQ r (r <<< 13))),
  aP [0] Sd rfl fun h=>dF h.1,
  trivial⟩) ?_
 rintro g1 w1 k1 ⟨s10,s11,-⟩ ⟨o0,o2,-⟩ Kq hK
 have s0:g1 0=pt s (0):=o0.trans rfl
 have hS:=hS.below k1
 have m2:KM (·=s) w w1:=aDr k1
 refine Dr hS sizeOf364 s11 s10 rfl rfl fun w3 hSn O3 z3 =>?_
 replace hS:=hSn
 have m4:=m2.only O3 (.inl rfl)
 refine hK _ _ ?_
 refine YF 9 (_::_::_::_::_::_::_::_::_::[]) [(7,19),(8,20)] [0,2] rfl rfl ⟨aA,aA,aA,aA,aA,aA,aA,aA,aA,trivial⟩ (by kernel_rfl) rfl rfl rfl rfl rfl (fun Sd=>⟨
  bF Sd rfl s0,
  aP [0] Sd rfl fun h=>dF h.1,
  fY [1] Sd rfl fun hT h=>Cw h.1 ((hS.below hT).cell 0 rfl),
  bF Sd rfl s0,
  aP [3] Sd rfl fun h=>dF h.1,
  fY [4] Sd rfl fun hT h=>Cw h.1 ((hS.below hT).cell 0 rfl),
  oW [(5,17)] [] Sd rfl fun _ _ _ h _=>dv (VI h.1 rfl (by decide)) (aD7 (Value.int .u64) (YK (r ^^^ r <<< 13) 7 (by decide))),
  oW [(2,14),(6,18)] [] Sd rfl fun _ _ _ h _=>dv (EL h.1 h.2.1) (aD7 (Value.int .u64) (QQ (r ^^^ r <<< 13) ((r ^^^ r <<< 13) >>> 7))),
  aP [0] Sd rfl fun h=>dF h.1,
  trivial⟩) ?_
 rintro g5 w5 k5 ⟨s19,s20,-⟩ ⟨o0,o2,-⟩ Kq hK
 have s0:=o0.trans s0
 have hS:=hS.below k5
 have m6:=m4.below k5
 refine Dr hS sizeOf364 s20 s19 rfl rfl fun w7 hSn O7 z7 =>?_
 replace hS:=hSn
 have m8:=m6.only O7 (.inl rfl)
 refine hK _ _ ?_
 refine YF 9 (_::_::_::_::_::_::_::_::_::[]) [(7,28),(8,29)] [0,2] rfl rfl ⟨aA,aA,aA,aA,aA,aA,aA,aA,aA,trivial⟩ (by kernel_rfl) rfl rfl rfl rfl rfl (fun Sd=>⟨
  bF Sd rfl s0,
  aP [0] Sd rfl fun h=>dF h.1,
  fY [1] Sd rfl fun hT h=>Cw h.1 ((hS.below hT).cell 0 rfl),
  bF Sd rfl s0,
  aP [3] Sd rfl fun h=>dF h.1,
  fY [4] Sd rfl fun hT h=>Cw h.1 ((hS.below hT).cell 0 rfl),
  oW [(5,26)] [] Sd rfl fun _ _ _ h _=>dv (Kz h.1 rfl (by decide)) (aD7 (Value.int .u64) (Wh ((r ^^^ r <<< 13) ^^^ (r ^^^ r <<< 13) >>> 7) 17 (by decide))),
  oW [(2,23),(6,27)] [] Sd rfl fun _ _ _ h _=>dv (EL h.1 h.2.1) (aD7 (Value.int .u64) (QQ ((r ^^^ r <<< 13) ^^^ (r ^^^ r <<< 13) >>> 7) (((r ^^^ r <<< 13) ^^^ (r ^^^ r <<< 13) >>> 7) <<< 17))),
  aP [0] Sd rfl fun h=>dF h.1,
  trivial⟩) ?_
 rintro g9 w9 k9 ⟨s28,s29,-⟩ ⟨o0,o2,-⟩ Kq hK
 have s0:=o0.trans s0
 have hS:=hS.below k9
 have m10:=m8.below k9
 refine Dr hS sizeOf364 s29 s28 rfl rfl fun w11 hSn O11 z11 =>?_
 replace hS:=hSn
 have m12:=m10.only O11 (.inl rfl)
 exact hK _ _ (rg (bI s0 (sq (dF rfl) (sq (Cw rfl (hS.cell 0 rfl)) (aW (.int .u64 (((((r ^^^ r <<< 13) ^^^ (r ^^^ r <<< 13) >>> 7) ^^^ ((r ^^^ r <<< 13) ^^^ (r ^^^ r <<< 13) >>> 7) <<< 17).toNat:Nat):Int)) rfl (nx (aE (fO rfl ⟨_,rfl,m12,rfl,hS⟩))))))))
theorem Yd (h:n<=1000000):2 ^ Sort.bitsLen n<=2*n+1/\(1<=n->2 ^ Sort.bitsLen n<=2*n)/\Sort.bitsLen n<=20:=by
 unfold Sort.bitsLen
 split
 ·exact ⟨by omega,by omega,by omega⟩
 ·rename_i h0
  have h1:=Nat.log2_self_le h0
  have h2:n.log2<20:=(Nat.log2_lt h0).2 (by omega)
  exact ⟨by rw [aDg];omega,fun _=>by rw [aDg];omega,by omega⟩
theorem pow_n (h:n<=1000000):yT .u64 1 ((Sort.bitsLen n:Nat):Int)=((1 <<< Sort.bitsLen n:Nat):Int):=by
 have hb:=Yd h
 unfold yT
 show IntKind.u64.wrap (1*2 ^ (min ((Sort.bitsLen n:Nat):Int).toNat 64))=_
 rw [Int.toNat_natCast,aCt (by omega),Nat.shiftLeft_eq,Int.one_mul,Nat.one_mul]
 have:=oZ (a:=2 ^ Sort.bitsLen n) (by omega)
 rwa [Int.natCast_pow] at this ⊢
theorem Fd (n) (w) (h:n<=1000000):cT 238 [.int .u64 ((n:Nat):Int)] w fun v _=>v=zi ((Sort.bitsLen n:Nat):Int):=
 (bits_Len (n:Int) w (by omega) (by omega)).mono fun e w' ⟨he,hw⟩=>⟨_,he,by rw [hw];exact aDt _ _,by rw [Int.toNat_natCast,XL n (by omega)]⟩
theorem Sl (n) (w) (h:n<=1000000):cT 279 [zi ((n:Nat):Int)] w fun v _=>v=.int .u64 ((1 <<< Sort.bitsLen n:Nat):Int):=by
 refine aJ (n:=7) func279 rfl ntmps279 (aA1 rfl) (rg (aW (.int .u64 (0)) rfl (nx (rg (aN (zi ((n:Nat):Int)) rfl (iJ (.int .u64 ((n:Nat):Int)) (pO underlying3 underlying208 rfl) (aD7 (Value.int .u64) (oZ (by omega))) (cE OO (a1 rfl) (Fd n _ (by omega)) ?_)))))))
 rintro _ w1 k1 rfl
 exact iJ (.int .u64 ((1 <<< Sort.bitsLen n:Nat):Int)) (Kz rfl rfl (by omega)) (aD7 (Value.int .u64) (pow_n (by omega))) (aW (.int .u64 ((1 <<< Sort.bitsLen n:Nat):Int)) rfl (nx (aE (fO rfl ⟨_,rfl,k1,rfl⟩))))
def CZ (lo len md:Nat):Nat->Nat->UInt64 × Array aK->UInt64 × Array aK
 | 0,_,s=>s
 | k+1,ix,s=>CZ lo len md k (ix+1) (Sort.breakStep lo len md s ix)
theorem bp_0 {d:Array aK} {lo hi:Nat} (h:¬ 8<=hi - lo):Sort.breakPatterns d lo hi=d:=by
 unfold Sort.breakPatterns;simp only [ge_iff_le,aEd h]
theorem bp_8 (hl:len=hi - lo) (hm:md=1 <<< Sort.bitsLen len) (hx:ix=lo+len / 4*2 - 1) (h:8<=len):Sort.breakPatterns d lo hi=(CZ lo len md 3 ix (UInt64.ofNat len,d)).2:=by
 subst hl hm hx
 unfold Sort.breakPatterns;simp only [ge_iff_le,aEc h];rfl
theorem bp_tl {lo len md ix i ot:Nat} {r r2:UInt64} (hi:i<3) (hr:r2=Sort.xorNext r) (ho:ot=r2.toNat &&& (md - 1)) (h:¬ len<=ot) (hz:z=Sort.swp y (ix+i) (lo+ot)):CZ lo len md (3 - i) (ix+i) (r,y)=CZ lo len md (3 - (i+1)) (ix+(i+1)) (r2,z):=by
 subst hr ho hz
 rw [show 3 - i=(3 - (i+1))+1 by omega]
 show CZ lo len md _ _ (Sort.breakStep lo len md (r,y) (ix+i))=_
 unfold Sort.breakStep
 simp only [ge_iff_le,aEd h];rfl
theorem Zu {lo len md ix i ot:Nat} {r r2:UInt64} (hi:i<3) (hr:r2=Sort.xorNext r) (ho:ot=r2.toNat &&& (md - 1)) (h:len<=ot) (hz:z=Sort.swp y (ix+i) (lo+(ot - len))):CZ lo len md (3 - i) (ix+i) (r,y)=CZ lo len md (3 - (i+1)) (ix+(i+1)) (r2,z):=by
 subst hr ho hz
 rw [show 3 - i=(3 - (i+1))+1 by omega]
 show CZ lo len md _ _ (Sort.breakStep lo len md (r,y) (ix+i))=_
 unfold Sort.breakStep
 simp only [ge_iff_le,aEc h];rfl
theorem Yl (b c N) (d) (lo hi) (w) (hR:Bk b (dE tl d) 112 w) (hz:d.size=N) (hN:N<=1000000) (h1:lo<hi) (h2:hi<=N):jP (·=b) 253 [.slice (some ⟨b,0,none⟩) N c,zi (lo:Int),zi (hi:Int),FV] w fun v W=>v=.tuple #[]/\Bk b (dE tl (Sort.breakPatterns d lo hi)) 112 W/\(Sort.breakPatterns d lo hi).size=N:=by
 refine aJ (n:=67) func253 rfl ntmps253 (aA1 rfl) (rg (aN (zi ((hi:Nat):Int)) rfl (aN (zi ((lo:Nat):Int)) rfl (sq (cS (a:=hi) (b:=lo) rfl rfl (by omega)) ?_))))
 obtain ⟨len,hlen⟩:∃ x,x=hi - lo:=⟨_,rfl⟩
 refine aW (zi ((len:Nat):Int)) (by rw [hlen];exact rfl) (nx (rg (aN (zi ((len:Nat):Int)) rfl (sq (uJ (a:=len) (b:=8) rfl rfl) (nx ?_)))))
 refine cd rfl (fun c1=>?_) (fun c1=>?_)
 ·
  have c1n:=aBp c1
  refine rg (aN (zi ((len:Nat):Int)) rfl (iJ (.int .u64 ((len:Nat):Int)) (pO underlying3 underlying364 rfl) (aD7 (Value.int .u64) (oZ (by omega))) (eA (cs:=[.int .u64 0]) zeroValue364 rfl ?_)))
  intro w2 hS k2 z2
  have hsb:w.heap.size≠b:=(aC8 hR.lt).symm
  have hsz:=aDl w.heap.size
  have hR:=hR.below k2
  have m2:KM (·=b) w w2:=aDr k2
  refine eP hS sizeOf364 rfl rfl rfl rfl ?_
  intro w3 hSn O3 z3x
  have hS:Bk w.heap.size [.int .u64 (((UInt64.ofNat len).toNat:Nat):Int)] 364 w3:=by rw [UInt64.toNat_ofNat_of_lt' (by simp [UInt64.size];omega)];exact hSn
  have hR:=hR.only O3 (fun e=>hsb e.symm)
  have m3:=m2.next (aD0 (M:=fun i=>i=w.heap.size) O3 rfl) (fun i hi=>.inr (by have:i=w.heap.size:=hi;omega))
  refine nx (rg (aN (zi ((len:Nat):Int)) rfl (cE en279 (a1 rfl) (Sl len _ (by omega)) ?_)))
  rintro _ w4 k4 rfl
  have hR:=hR.below k4
  have hS:=hS.below k4
  have m5:=m3.below k4
  obtain ⟨md,hmd⟩:∃ x,x=1 <<< Sort.bitsLen len:=⟨_,rfl⟩
  refine aW (.int .u64 ((md:Nat):Int)) (by rw [hmd];exact rfl) ?_
  have hmd2:md<=2*len/\0<md:=by have:=Yd (n:=len) (by omega);have:=this.2.1 (by omega);rw [Nat.shiftLeft_eq,Nat.one_mul] at hmd;have h0:=Nat.two_pow_pos (Sort.bitsLen len);omega
  refine nx (rg (aN (zi ((lo:Nat):Int)) rfl (aN (zi ((len:Nat):Int)) rfl (sq (vW (a:=len) (b:=4) rfl rfl (by omega)) (sq (Aj (a:=len / 4) (b:=2) rfl rfl (by omega)) ?_)))))
  refine sq (cF (a:=lo) (b:=(len / 4)*2) rfl rfl (by omega)) (sq (cS (a:=lo+((len / 4)*2)) (b:=1) rfl rfl (by omega)) ?_)
  obtain ⟨ix,hix⟩:∃ x,x=(lo+((len / 4)*2)) - 1:=⟨_,rfl⟩
  refine aW (zi ((ix:Nat):Int)) (by rw [hix];exact rfl) (nx ?_)
  refine aO (lp (fun m g W=>∃ i:Nat,∃ r:UInt64,∃ y:Array aK,m=3 - i/\g 0=.slice (some ⟨b,0,none⟩) N c/\g 1=zi ((lo:Nat):Int)/\g 8=zi ((len:Nat):Int)/\g 9=pt w.heap.size (0)/\g 10=.int .u64 ((md:Nat):Int)/\g 11=zi ((ix+i:Nat):Int)/\Bk b (dE tl y) 112 W/\Bk w.heap.size ([.int .u64 ((r.toNat:Nat):Int)]) 364 W/\KM (·=b) w W/\y.size=N/\(i<=3/\CZ lo len md (3 - i) (ix+i) (r,y)=CZ lo len md 3 ix (UInt64.ofNat len,d))) _ ⟨0,(UInt64.ofNat len),d,rfl,rfl,rfl,rfl,rfl,rfl,rfl,hR,hS,m5,(by first | omega | (simp only [iN];omega)),And.intro (by omega) rfl⟩ ?_)
  rintro m g6 w6 ⟨i,r,y,hme6,s0,s1,s8,s9,s10,s11,hR6,hS,km6,hz6,hP⟩
  refine aF (rg (bI s11 (bI s1 (bI s8 (sq (vW (a:=len) (b:=4) rfl rfl (by omega)) ?_)))))
  refine sq (Aj (a:=len / 4) (b:=2) rfl rfl (by omega)) (sq (cF (a:=lo) (b:=(len / 4)*2) rfl rfl (by omega)) (sq (cF (a:=lo+((len / 4)*2)) (b:=1) rfl rfl (by omega)) (sq (AI (a:=ix+i) (b:=(lo+((len / 4)*2))+1) rfl rfl) (nx ?_))))
  refine cd rfl (fun c7=>?_) (fun c7=>?_)
  ·
   have c7n:=aBp c7
   refine aG (aF (aO (rg (By (caps:=[]) aAi rfl (ac (a1 s9)) (Vd w.heap.size r _ hS) ?_))))
   rintro v8 w8 k8 ⟨rfl,hS8⟩
   have hR6:=hR6.km k8 (fun e=>hsb e.symm)
   have m8:KM (·=b) w w8:=km6.next k8 (fun i hi=>.inr (by have:i=w.heap.size:=hi;omega))
   obtain ⟨r2,hr2⟩:∃ x,x=Sort.xorNext r:=⟨_,rfl⟩
   rw [<- hr2] at hS8
   refine bI s10 (iJ (.int .u64 ((md - 1:Nat):Int)) (Eu rfl rfl) (aD7 (Value.int .u64) (by rw [show ((md:Nat):Int) - 1=((md - 1:Nat):Int) by omega];exact oZ (by omega))) (iJ (.int .u64 ((r2.toNat &&& (md - 1):Nat):Int)) (Nv (by rw [hr2];rfl) rfl) (aD7 (Value.int .u64) (YN (by have:=r2.toNat_lt;omega) (by omega))) ?_))
   have han:r2.toNat &&& (md - 1)<=md - 1:=Nat.and_le_right
   refine iJ (zi ((r2.toNat &&& (md - 1):Nat):Int)) (pO underlying208 underlying3 rfl) (aD7 (Value.int .i64) (Kn (by omega))) ?_
   obtain ⟨ot,hot⟩:∃ x,x=r2.toNat &&& (md - 1):=⟨_,rfl⟩
   refine aW (zi ((ot:Nat):Int)) (by rw [hot];exact rfl) (nx (aF (rg (aN (zi ((ot:Nat):Int)) rfl (bI s8 ?_)))))
   refine sq (uJ (a:=ot) (b:=len) rfl rfl) (nx ?_)
   refine cd rfl (fun c9=>?_) (fun c9=>?_)
   ·
    have c9n:=aBp c9
    refine eO (aN (zi ((ot:Nat):Int)) rfl (bI s8 (sq (cS (a:=ot) (b:=len) rfl rfl (by omega)) (aW (zi ((ot - len:Nat):Int)) rfl (nl ?_)))))
    refine YD (fun _ _=>False) (eE (V:=_::_::_::_::_::_::_::_::_::_::_::_::_::_::_::_::_::(fun _ _=>True)::_::(fun _ _=>True)::[]) (M:=fun i=>i=b) (ch:=[17,19]) (L:=[fun W=>Bk b (dE tl y) 112 W,fun W=>Bk b (dE tl (y.setIfInBounds (ix+i) y[lo+(ot - len)]!)) 112 W,fun W=>Bk b (dE tl ((y.setIfInBounds (ix+i) y[lo+(ot - len)]!).setIfInBounds (lo+(ot - len)) y[ix+i]!)) 112 W]) rfl ⟨aC,aC,aC,aC,aC,aC,aC,aC,aC,aC,aC,aC,aC,aC,aC,aC,aC,fI,aC,fI,trivial⟩ rfl rfl rfl (by intro P hP a b h k;simp only [aC0,aBy,or_false] at hP;rcases hP with rfl | rfl | rfl <;> exact mQ h k)) [] [0,1,8,9,10,11] (by kernel_rfl) rfl rfl hR6 (fun _ _ _ h=>h.elim) (fun Sd=>⟨
     bF Sd rfl s0,
     bF Sd rfl s11,
     bF Sd rfl s0,
     bF Sd rfl s1,
     bF Sd rfl rfl,
     aP [3,4] Sd rfl fun h=>cF (a:=lo) (b:=ot - len) h.1 h.2.1 (by omega),
     bF Sd rfl s0,
     bF Sd rfl s1,
     bF Sd rfl rfl,
     aP [7,8] Sd rfl fun h=>cF (a:=lo) (b:=ot - len) h.1 h.2.1 (by omega),
     aP [6,9] Sd rfl fun h=>bB underlying67 sizeOf112 h.1 h.2.1 (by omega),
     ol [(10,59)] [] Sd rfl rfl rfl rfl (by rintro g1 w1 hT ⟨h10,-⟩ - hB0;exact dv (bQ h10 (fA hB0 (by omega)) rfl) rfl),
     bF Sd rfl s0,
     bF Sd rfl s11,
     aP [12,13] Sd rfl fun h=>bB underlying67 sizeOf112 h.1 h.2.1 (by omega),
     ol [(14,63)] [] Sd rfl rfl rfl rfl (by rintro g1 w1 hT ⟨h14,-⟩ - hB0;exact dv (bQ h14 (fA hB0 (by omega)) rfl) rfl),
     aP [0,1] Sd rfl fun h=>bB underlying67 sizeOf112 h.1 h.2.1 (by omega),
     oc 0 [(11,60),(16,65)] [] rfl rfl rfl (by rintro g1 w1 hT ⟨h11,h16,-⟩ - hB0;exact jF hB0 h16 h11 (by omega) (fun W hB9 O=>And.intro (aD0 O rfl) (And.intro True.intro hB9))),
     aP [2,5] Sd rfl fun h=>bB underlying67 sizeOf112 h.1 h.2.1 (by omega),
     oc 1 [(15,64),(18,66)] [] rfl rfl rfl (by rintro g1 w1 hT ⟨h15,h18,-⟩ - hB0;exact jF hB0 h18 h15 (by rw [EP];omega) (fun W hB9 O=>And.intro (aD0 O rfl) (And.intro True.intro hB9))),
     trivial⟩) ?_
    rintro g10 w10 k10 - ⟨o0,o1,o8,o9,o10,o11,-⟩ hR10
    have hR10:Bk b (dE tl (Sort.swp y (ix+i) (lo+(ot - len)))) 112 w10:=hR10
    have hz10:(Sort.swp y (ix+i) (lo+(ot - len))).size=N:=by rw [iN];omega
    have s0:=o0.trans s0
    have s1:=o1.trans s1
    have s8:=o8.trans s8
    have s9:=o9.trans s9
    have s10:=o10.trans s10
    have s11:=o11.trans s11
    have m11:=m8.trans k10
    have hS8:=hS8.km k10 hsb
    refine pI (eO (bI s11 (sq (cF (a:=ix+i) (b:=1) rfl rfl (by omega)) (aW (zi (((ix+i)+1:Nat):Int)) rfl (nl ?_)))))
    exact fC (by omega) ⟨(i+1),r2,(Sort.swp y (ix+i) (lo+(ot - len))),rfl,s0,s1,s8,s9,s10,rfl,hR10,hS8,m11,(by first | omega | (simp only [iN];omega)),And.intro (by omega) (by rw [<- hP.2];exact (Zu (by omega) hr2 hot c9n rfl).symm)⟩
   ·
    have c9n:=aBe c9
    refine aG ?_
    refine YD (fun _ _=>False) (eE (V:=_::_::_::_::_::_::_::_::_::_::_::_::_::_::_::_::_::(fun _ _=>True)::_::(fun _ _=>True)::[]) (M:=fun i=>i=b) (ch:=[17,19]) (L:=[fun W=>Bk b (dE tl y) 112 W,fun W=>Bk b (dE tl (y.setIfInBounds (ix+i) y[lo+ot]!)) 112 W,fun W=>Bk b (dE tl ((y.setIfInBounds (ix+i) y[lo+ot]!).setIfInBounds (lo+ot) y[ix+i]!)) 112 W]) rfl ⟨aC,aC,aC,aC,aC,aC,aC,aC,aC,aC,aC,aC,aC,aC,aC,aC,aC,fI,aC,fI,trivial⟩ rfl rfl rfl (by intro P hP a b h k;simp only [aC0,aBy,or_false] at hP;rcases hP with rfl | rfl | rfl <;> exact mQ h k)) [] [0,1,8,9,10,11] (by kernel_rfl) rfl rfl hR6 (fun _ _ _ h=>h.elim) (fun Sd=>⟨
     bF Sd rfl s0,
     bF Sd rfl s11,
     bF Sd rfl s0,
     bF Sd rfl s1,
     bF Sd rfl rfl,
     aP [3,4] Sd rfl fun h=>cF (a:=lo) (b:=ot) h.1 h.2.1 (by omega),
     bF Sd rfl s0,
     bF Sd rfl s1,
     bF Sd rfl rfl,
     aP [7,8] Sd rfl fun h=>cF (a:=lo) (b:=ot) h.1 h.2.1 (by omega),
     aP [6,9] Sd rfl fun h=>bB underlying67 sizeOf112 h.1 h.2.1 (by omega),
     ol [(10,59)] [] Sd rfl rfl rfl rfl (by rintro g1 w1 hT ⟨h10,-⟩ - hB0;exact dv (bQ h10 (fA hB0 (by omega)) rfl) rfl),
     bF Sd rfl s0,
     bF Sd rfl s11,
     aP [12,13] Sd rfl fun h=>bB underlying67 sizeOf112 h.1 h.2.1 (by omega),
     ol [(14,63)] [] Sd rfl rfl rfl rfl (by rintro g1 w1 hT ⟨h14,-⟩ - hB0;exact dv (bQ h14 (fA hB0 (by omega)) rfl) rfl),
     aP [0,1] Sd rfl fun h=>bB underlying67 sizeOf112 h.1 h.2.1 (by omega),
     oc 0 [(11,60),(16,65)] [] rfl rfl rfl (by rintro g1 w1 hT ⟨h11,h16,-⟩ - hB0;exact jF hB0 h16 h11 (by omega) (fun W hB9 O=>And.intro (aD0 O rfl) (And.intro True.intro hB9))),
     aP [2,5] Sd rfl fun h=>bB underlying67 sizeOf112 h.1 h.2.1 (by omega),
     oc 1 [(15,64),(18,66)] [] rfl rfl rfl (by rintro g1 w1 hT ⟨h15,h18,-⟩ - hB0;exact jF hB0 h18 h15 (by rw [EP];omega) (fun W hB9 O=>And.intro (aD0 O rfl) (And.intro True.intro hB9))),
     trivial⟩) ?_
    rintro g12 w12 k12 - ⟨o0,o1,o8,o9,o10,o11,-⟩ hR12
    have hR12:Bk b (dE tl (Sort.swp y (ix+i) (lo+ot))) 112 w12:=hR12
    have hz12:(Sort.swp y (ix+i) (lo+ot)).size=N:=by rw [iN];omega
    have s0:=o0.trans s0
    have s1:=o1.trans s1
    have s8:=o8.trans s8
    have s9:=o9.trans s9
    have s10:=o10.trans s10
    have s11:=o11.trans s11
    have m13:=m8.trans k12
    have hS8:=hS8.km k12 hsb
    refine pI (eO (bI s11 (sq (cF (a:=ix+i) (b:=1) rfl rfl (by omega)) (aW (zi (((ix+i)+1:Nat):Int)) rfl (nl ?_)))))
    exact fC (by omega) ⟨(i+1),r2,(Sort.swp y (ix+i) (lo+ot)),rfl,s0,s1,s8,s9,s10,rfl,hR12,hS8,m13,(by first | omega | (simp only [iN];omega)),And.intro (by omega) (by rw [<- hP.2];exact (bp_tl (by omega) hr2 hot c9n rfl).symm)⟩
  ·
   have c7n:=aBe c7
   refine cI ?_
   repeat refine bN ?_
   refine dP ?_
   exact fV rfl ⟨_,rfl,km6,rfl,by rw [bp_8 hlen hmd hix c1n,<- hP.2,show 3 - i=0 by omega];show Bk b (dE tl y) 112 _/\y.size=N;exact ⟨hR6,by omega⟩⟩
 ·
  have c1n:=aBe c1
  refine aG ?_
  exact fV rfl ⟨_,rfl,(aD8 _ _),rfl,by rw [bp_0 (by rw [<- hlen];exact c1n)];exact ⟨hR,by omega⟩⟩
end Go.Proofs.YtlfjfopjjbbcoaaGreatDoor
