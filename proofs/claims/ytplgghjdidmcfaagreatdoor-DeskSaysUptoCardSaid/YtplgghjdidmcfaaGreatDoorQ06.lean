/- Written anew, smaller, by a program of our own out of our texts. No condition of our own. -/
import Derived.Test.YtplgghjdidmcfaaGreatDoorQ05
import Derived.Test.YtplgghjdidmcfaaGreatDoorQ01
import Derived.BigRegion
import Derived.Test.YtplgghjdidmcfaaGreatDoorQ04
import Derived.Test.YtplgghjdidmcfaaGreatDoorQ03
set_option maxRecDepth 100000
set_option maxHeartbeats 16000000
set_option linter.all false
namespace Go.Proofs.YtplgghjdidmcfaaGreatDoor
open Go.RowKit
theorem C0J{P:Prop}(h:P:=by
 clear HOD hbD
 obtain⟨c,a',out',rfl,hem,hown',hb'⟩:=hrel
 have hal:=hem.len
 have hak:=hem.le
 have HEM:=AA hem
 have HOWN':=AA hown'
 clear hem hown'
 by_cases hai:a'≤i
 ·have g4:decide ((a':Int)≤(i:Int))=true:=AG EE
  have HX:Hid (s.extract a' (a'+k-i)=S (((L s).drop a').take (k-i))):=by
   unfold Hid;rw[A2E];congr 2;omega
  have HST:Hid (EmAt (L s) at_ i k (c+1) (a'+(k-i)) (out'++ [((L s).drop a').take (k-i)])):=HEM.out.step HDU.out (by rw[HLL.out];exact hk) hai
  have gx:((a':Int)+(k:Int)-(i:Int)).toNat=a'+k-i:=EE
  go_wp2_with (at_builtin;go_must (refine A0r rfl _ _ _ rfl w.heap.size 9 i0 _ 1 16 Tryz.underlying25 hi0 hz0 hz1 hz2 rfl EE _ out'.length (strCells out') rfl (BE (w:=wr) HOWN'.out _) ⟨wr.heap.size,0,none⟩ 1 1 [.string (s.extract a' (a'+k-i))] rfl rfl (BL _ _ _) (by simp[Value.oneCell']) EE EE (by have:=(hb').size;simp at this⊢;omega) ?_);intro v6 w6 hown6 hg6 hb6;have hb6':=((hb').alloc (hb').size _).trans hb6)
  clear hg6 hb6
  go_roundw
  case rel=>
   refine⟨c+1,a'+(k-i),_,by go_num,HST.out, ?_,hb6'⟩
   rw[AJ,Ah,←A3v,←HX.out]
   exact hown6
  case measure=>simp[intOf];omega
 ·have g4:decide ((a':Int)≤(i:Int))=false:=AC EE
  have HNI':Hid (∀u,out'.getLast? =some u→NIr u ((L s).drop a')):=HEM.out.fin HDU.out (by rw[HLL.out];exact hk) HEX.out EE
  go_wp2_with fail
  go_roundw
  case rel=>exact⟨a',out',rfl,by omega,HEM.out.sp,HNI'.out,hal,HOWN'.out,hb'⟩
  case measure=>simp[intOf];omega
 ):P:=h
theorem B9J{P:Prop}(h:P:=by
 rw[AH];intro h;exact he (Bo.1 EE)
 ):P:=h
theorem B9W{P:Prop}(h:P:=by
 rw[AK,AK,List.getElem?_set]
 by_cases hj:j=k
 ·subst hj;simp[h]
 ·have:¬k=j:=fun e=>hj e.symm
  simp[hj,this]
 ):P:=h
theorem C1G{P:Prop}(h:P:=by
 refine⟨k+1,_,by omega,.inl EE,by go_num,h2,h1, ?_⟩
 exact Ds
 ):P:=h
theorem C0c{P:Prop}(h:P:=by
 go_wp2_with fail
 refine(A3f s t _).mono ?_
 rintro e w1 ⟨rfl,hb1⟩
 rw[HV.out]
 go_wp2_with fail
 go_ret2
 exact⟨rfl,hb1⟩
 ):P:=h
theorem C1L{P:Prop}(h:P:=by
 go_wp2_with fail
 refine(A1t s _).mono ?_
 rintro e w1 ⟨rfl,hb1⟩
 rw[HE.out]
 go_wp2_with fail
 go_ret2
 exact⟨rfl,hb1⟩
 ):P:=h
theorem A6r(s t:ByteArray):A1O [s,t]=if 200<s.size∨200<t.size then 2 else 0:=by simp[A1O]
theorem A3f(s t:ByteArray)(w:World):
 Calls Tryz.prog 71 #[.string s,.string t] w fun e w'=>e= .returned (.int .i64 (A1O [s,t]))∧Below w.heap.size w w':=by
 rw[A6r]
 by_cases h:200<s.size
 ·have HE:Hid (A0W s.size=2):=by unfold Hid A0W;rw[if_pos h]
  rw[if_pos (Or.inl h)]
  clear h
  go_enter Tryz.func71,Tryz.ntmps71
  go_wp2_with fail
  refine(A1t s _).mono ?_
  rintro e w1 ⟨rfl,hb1⟩
  rw[HE.out]
  go_wp2_with fail
  go_ret
  exact⟨rfl,hb1⟩
 ·have HE:Hid (A0W s.size=0):=by unfold Hid A0W;rw[if_neg h]
  have HT:Hid (A0W t.size=if 200<s.size∨200<t.size then 2 else 0):=by
   unfold Hid A0W
   by_cases h2:200<t.size
   ·rw[if_pos h2,if_pos (Or.inr h2)]
   ·rw[if_neg h2,if_neg EE]
  clear h
  generalize(if 200<s.size∨200<t.size then(2:Int) else 0)=x at*
  go_enter Tryz.func71,Tryz.ntmps71
  go_wp2_with fail
  refine(A1t s _).mono ?_
  rintro e w1 ⟨rfl,hb1⟩
  rw[HE.out]
  go_wp2_with fail
  refine(A1t t _).mono ?_
  rintro e w2 ⟨rfl,hb2⟩
  rw[HT.out]
  go_wp2_with fail
  go_ret
  exact⟨rfl,A0h hb1 hb2⟩
theorem A4t(l:List Int)(k j:Nat)(v:Int)(h:k<l.length):(l.set k v).getD j 0=if j=k then v else l.getD j 0:=by
 exact B9W
def levT(s t:ByteArray)(i k:Nat):Nat:=lev ((L s).take i) ((L t).take k)
theorem A9U(s:ByteArray)(k:Nat)(h:k<s.size):(L s).take (k+1)=(L s).take k++ [s[k]]:=by
 rw[Aa (by rw[A0e];exact h),getB s k h,AK,AL (by rw[A0e];exact h)];rfl
theorem B5x(s t:ByteArray)(i k:Nat)(hi:i<s.size)(hk:k<t.size):levT s t (i+1) (k+1)=min (levT s t i k+if s[i]=t[k] then 0 else 1) (min (levT s t (i+1) k+1) (levT s t i (k+1)+1)):=by
 unfold levT;rw[A9U s i hi,A9U t k hk,B7C]
theorem A9v(s t:ByteArray)(k:Nat)(hk:k≤t.size):levT s t 0 k=k:=by
 unfold levT;rw[Bs,A1w,AV,A0e];omega
theorem A4g(s t:ByteArray)(i:Nat)(hi:i≤s.size):levT s t i 0=i:=by
 unfold levT;rw[Bs,A1D,AV,A0e];omega
theorem B7D(s t:ByteArray):levT s t s.size t.size=lev (L s) (L t):=by
 unfold levT;rw[AX (by rw[A0e];exact AD _),AX (by rw[A0e];exact AD _)]
theorem A7y(s t:ByteArray)(i k:Nat):levT s t i k≤s.size+t.size:=by
 have:=A5i ((L s).take i) ((L t).take k)
 simp only[AV,A0e] at this
 unfold levT;omega
structure OfIn (s t:ByteArray) (wr:World) (base g i k:Nat) (l:List Int):Prop where
 row:ArrI wr base g (t.size+1) l
 new:∀j,j≤k→l.getD j 0=(levT s t (i+1) j:Nat)
 old:∀j,k<j→j≤t.size→l.getD j 0=(levT s t i j:Nat)
theorem OfIn.step{s t:ByteArray}{wr:World}{base g i k:Nat}{l:List Int}(h:OfIn s t wr base g i k l)(hk:k<t.size)(n:Nat){v:Int}(hv:v=(levT s t (i+1) (k+1):Nat)):
 OfIn s t ((wr.drewN n).setCell ⟨g,k+1,none⟩ (.int .i64 v)) base g i (k+1) (l.set (k+1) v):=by
 have hl:=h.row.len
 refine⟨(h.row.drewN n).set_ _ _,fun j hj=> ?_,fun j h1 h2=> ?_⟩
 ·rw[A4t _ _ _ _ EE]
  by_cases hq:j=k+1
  ·subst hq;rw[if_pos rfl];exact hv
  ·rw[if_neg hq];exact h.new j EE
 ·rw[A4t _ _ _ _ EE,if_neg EE];exact h.old j EE h2
theorem B4g(s t:ByteArray)(hs:s.size≤200)(ht:t.size≤200)(w:World):
 Calls Tryz.prog 153 #[.string s,.string t] w fun e w'=>e= .returned (.tuple #[.int .i64 (lev (L s) (L t):Nat),.int .i64 0])∧Below w.heap.size w w':=by
 obtain⟨i0,hi0,hz0,hz1,hz2⟩:=info_parts A1E
 have HV:Hid (A1O [s,t]=0):=by unfold Hid;rw[A6r,if_neg EE]
 go_enter Tryz.func153,Tryz.ntmps153
 go_wp2_with fail
 refine(A3f s t _).mono ?_
 rintro e w1 ⟨rfl,hb1⟩
 rw[HV.out]
 go_wp2_with (at_make;go_must (refine wpList_make_full _ rfl _ _ _ rfl w.heap.size 3 i0 _ 1 Tryz.underlying91 hi0 hz0 hz1 .i64 .i64 ((t.size:Int)+1) ((t.size:Int)+1) (t.size+1) rfl rfl EE EE (by rw[hz2];omega) (by unfold maxLen;omega) hb1.size ?_);intro w2 hown2 hg2)
 have hb2:Below w.heap.size w w2:=hb1.grown hg2 hb1.size (fun _ h=>by cases h)
 have hgz:w.heap.size≤w1.heap.size:=hb1.size
 have hown2:ArrI w2 w.heap.size w1.heap.size (t.size+1) (List.replicate (t.size+1) 0):=by
  rw[A4H] at hown2;exact hown2
 clear hg2 hb1
 generalize w1.heap.size=g at*
 go_loopw [25] (fun i wr=>∃(k:Nat) (l:List Int),k≤t.size+1∧i= .int .i64 k∧ArrI wr w.heap.size g (t.size+1) l∧(∀j,j<k→l.getD j 0=(j:Int))∧Below w.heap.size w wr) (fun i _=>t.size+1-(intOf i).toNat)
 case atStart=>exact⟨0,_,AS _,rfl,hown2,fun j h=>by omega,hb2⟩
 case round=>
  clear hown2 hb2
  obtain⟨k,l,hk,rfl,hrow,hl,hb⟩:=hrel
  have HL:=AA hl
  clear hl
  have hln:=hrow.len
  by_cases hlt:k<t.size+1
  ·have c0:=hrow.at_ hlt
   have f0:=hrow.free k
   have HR:=AA (hrow.set_ k (k:Int))
   have g1:decide ((k:Int)<(t.size:Int)+1)=true:=AG EE
   clear hrow
   go_wp2_with fail
   go_roundw
   case rel=>
    refine⟨k+1,_,by omega,by go_num,HR.out,fun j hj=> ?_,BY hb hgz _⟩
    rw[A4t _ _ _ _ EE]
    split
    ·rename_i e;rw[e]
    ·exact HL.out j EE
   case measure=>simp[intOf];omega
  ·obtain rfl:k=t.size+1:=EE
   have g1:decide (((t.size+1:Nat):Int)<(t.size:Int)+1)=false:=AC EE
   have HR0:=AA hrow
   clear hrow
   go_wp2_with fail
   go_loopw [35] (fun i wr=>∃(i':Nat) (l:List Int),i'≤s.size∧i= .int .i64 i'∧ArrI wr w.heap.size g (t.size+1) l∧(∀j,j≤t.size→l.getD j 0=(levT s t i' j:Nat))∧Below w.heap.size w wr) (fun i _=>s.size-(intOf i).toNat)
   case atStart=>exact⟨0,l,AS _,rfl,HR0.out,fun j hj=>by rw[HL.out j EE,A9v s t j hj],hb⟩
   case round=>
    clear HR0 HL hb hln
    obtain⟨i,l,hi,rfl,hrow,hl,hb⟩:=hrel
    obtain⟨wo,hwo⟩:∃wo:World,wo=wr:=⟨_,rfl⟩
    subst hwo
    have HL:=AA hl
    clear hl
    have hln:=hrow.len
    by_cases hlt:i<s.size
    ·have g2:decide ((i:Int)<(s.size:Int))=true:=AG EE
     have c0:=hrow.at_ (k:=0) EE
     rw[HL.out 0 (AS _),A4g s t i hi] at c0
     have f0:=hrow.free 0
     have HI:Hid (OfIn s t (wo.setCell ⟨g,0,none⟩ (.int .i64 ((i:Int)+1))) w.heap.size g i 0 (l.set 0 ((i:Int)+1))):=by
      refine⟨hrow.set_ 0 _,fun j hj=> ?_,fun j h1 h2=> ?_⟩
      ·rw[A4t _ _ _ _ EE,if_pos EE,show j=0 by omega,A4g s t _ EE];omega
      ·rw[A4t _ _ _ _ EE,if_neg EE];exact HL.out j h2
     have hB:=BY (p:=⟨g,0,none⟩) hb hgz (.int .i64 ((i:Int)+1))
     clear hrow
     go_wp2_with fail
     go_loopw [10,47] (fun c k wr=>∃(k':Nat) (l:List Int),k'≤t.size∧k= .int .i64 k'∧c= .int .i64 (levT s t i k':Nat)∧OfIn s t wr w.heap.size g i k' l∧Below w.heap.size w wr) (fun _ k _=>t.size-(intOf k).toNat)
     case atStart=>exact⟨0,_,AS _,rfl,by rw[A4g s t i hi],HI.out,hB⟩
     case round=>
      clear HI hB HL hb hln
      obtain⟨k,l,hk,rfl,rfl,hO,hb⟩:=hrel
      by_cases hkt:k<t.size
      ·have g3:decide ((k:Int)<(t.size:Int))=true:=AG EE
       have c1:=hO.row.at_ (k:=k+1) EE
       have c2:=hO.row.at_ (k:=k) EE
       have f1:=hO.row.free (k+1)
       rw[hO.old (k+1) EE EE] at c1
       rw[hO.new k (AD _)] at c2
       have HO:Hid (∀(n:Nat) (v:Int),v=(levT s t (i+1) (k+1):Nat)→OfIn s t ((wr.drewN n).setCell ⟨g,k+1,none⟩ (.int .i64 v)) w.heap.size g i (k+1) (l.set (k+1) v)):=fun n v hv=>hO.step hkt n hv
       have HS:=AA (B5x s t i k hlt hkt)
       have y1:=A7y s t i k
       have y2:=A7y s t (i+1) k
       have y3:=A7y s t i (k+1)
       have y4:=A7y s t (i+1) (k+1)
       clear hO
       generalize hx1:levT s t i k=x1 at*
       generalize levT s t (i+1) k=x2 at*
       generalize hx3:levT s t i (k+1)=x3 at*
       by_cases he:s[i]=t[k]
       ·have g4:((s[i].toNat:Int)==(t[k].toNat:Int))=true:=by rw[he];simp
        have g5:((s[i].toNat:Int) !=(t[k].toNat:Int))=false:=by rw[he];simp
        rw[if_pos he] at HS
        clear he
        go_wp2_with fail
        go_quiet (fail)
        go_wp2_with fail
        go_roundw
        case rel=>exact⟨k+1,_,by omega,by go_num,by rw[hx3],HO.out _ _ (by rw[HS.out];split<;>split<;>omega),BY (A0d hb _) hgz _⟩
        case measure=>simp[intOf];omega
       ·have g4:((s[i].toNat:Int)==(t[k].toNat:Int))=false:=by
         exact B9J
        have g5:((s[i].toNat:Int) !=(t[k].toNat:Int))=true:=by
         rw[Be];intro h;exact he (Bo.1 EE)
        rw[if_neg he] at HS
        clear he
        go_wp2_with fail
        go_quiet (fail)
        go_wp2_with fail
        go_roundw
        case rel=>exact⟨k+1,_,by omega,by go_num,by rw[hx3],HO.out _ _ (by rw[HS.out];split<;>split<;>omega),BY (A0d hb _) hgz _⟩
        case measure=>simp[intOf];omega
      ·obtain rfl:k=t.size:=EE
       have g3:decide ((t.size:Int)<(t.size:Int))=false:=AC EE
       have HO:=AA hO
       clear hO
       go_wp2_with fail
       go_roundw
       case rel=>exact⟨i+1,l,by omega,by go_num,HO.out.row,fun j hj=>HO.out.new j hj,hb⟩
       case measure=>simp[intOf];omega
    ·obtain rfl:i=s.size:=EE
     have g2:decide ((s.size:Int)<(s.size:Int))=false:=AC EE
     have c0:=hrow.at_ (k:=t.size) EE
     rw[HL.out t.size (AD _),B7D] at c0
     clear hrow
     go_wp2_with fail
     go_ret2
     exact⟨rfl,hb⟩
theorem B2R(s t:ByteArray)(h:200<s.size∨200<t.size)(w:World):
 Calls Tryz.prog 153 #[.string s,.string t] w fun e w'=>e= .returned (.tuple #[.int .i64 0,.int .i64 2])∧Below w.heap.size w w':=by
 have HV:Hid (A1O [s,t]=2):=by unfold Hid;rw[A6r,if_pos h]
 clear h
 go_enter Tryz.func153,Tryz.ntmps153
 exact C0c
theorem A7Z(l m:List Int):ints (l++m)=ints l++ints m:=by simp[ints]
def ham(a b:List UInt8):Nat→Nat
 |0=>0
 |k+1=>ham a b k+if a.getD k 0=b.getD k 0 then 0 else 1
def bI(s:List UInt8)(m:Nat):List Int:=(A8n s m).map Int.ofNat
theorem bI_len(s:List UInt8)(m:Nat):(bI s m).length=m:=by simp[bI,B5j]
theorem A8s(s:List UInt8)(m j:Nat)(h:j<m):(bI s m).getD j 0=(fb s (j+1):Nat):=by
 rw[AK,bI,BT,B7q s m j h];rfl
theorem eq_bI{s:List UInt8}{m:Nat}{l:List Int}(hl:l.length=m)(h:∀j,j<m→l.getD j 0=(fb s (j+1):Nat)):l=bI s m:=by
 apply CO
 ·rw[hl,bI_len]
 ·intro j h1 h2
  have h3:=h j EE
  rw[←A8s s m j EE] at h3
  rw[AK,AL h1,AK,AL h2] at h3
  exact h3
theorem neB{a b:UInt8}:((a.toNat:Int) !=(b.toNat:Int))=decide (a≠b):=by
 rw[BR,Be,As]
 constructor
 ·intro h e;exact h (by rw[e])
 ·intro h e;exact h (Bo.1 EE)
theorem eqB{a b:UInt8}:((a.toNat:Int)==(b.toNat:Int))=decide (a=b):=by
 rw[BR,At,As]
 constructor
 ·intro e;exact Bo.1 EE
 ·intro e;rw[e]
theorem A7I(s:ByteArray)(hs:200<s.size)(w:World):
 Calls Tryz.prog 188 #[.string s] w fun e w'=>e= .returned (.tuple #[.slice none 0 0,.int .i64 2])∧Below w.heap.size w w':=by
 have HE:Hid (A0W s.size=2):=by unfold Hid A0W;rw[if_pos hs]
 go_enter Tryz.func188,Tryz.ntmps188
 exact C1L
theorem A4h(s:ByteArray)(hs:s.size≤200)(w:World):
 Calls Tryz.prog 188 #[.string s] w fun e w'=>∃g,e= .returned (.tuple #[.slice (some ⟨g,0,none⟩) s.size s.size,.int .i64 0])∧ArrI w' w.heap.size g s.size (bI (L s) s.size)∧Below w.heap.size w w':=by
 obtain⟨i0,hi0,hz0,hz1,hz2⟩:=info_parts A1E
 have HE:Hid (A0W s.size=0):=by unfold Hid A0W;rw[if_neg EE]
 go_enter Tryz.func188,Tryz.ntmps188
 go_wp2_with fail
 refine(A1t s _).mono ?_
 rintro e w1 ⟨rfl,hb1⟩
 rw[HE.out]
 go_wp2_with (at_make;go_must (refine wpList_make_full _ rfl _ _ _ rfl w.heap.size 3 i0 _ 1 Tryz.underlying91 hi0 hz0 hz1 .i64 .i64 (s.size:Int) (s.size:Int) s.size rfl rfl EE EE (by rw[hz2];omega) (by unfold maxLen;omega) hb1.size ?_);intro w2 hown2 hg2)
 have hb2:Below w.heap.size w w2:=hb1.grown hg2 hb1.size (fun _ h=>by cases h)
 have hgz:w.heap.size≤w1.heap.size:=hb1.size
 have hown2:ArrI w2 w.heap.size w1.heap.size s.size (List.replicate s.size 0):=by
  rw[A4H] at hown2;exact hown2
 clear hg2 hb1
 generalize w1.heap.size=g at*
 go_loopw [6] (fun i wr=>∃(k:Nat) (l:List Int),1≤k∧(k≤s.size∨k=1)∧i= .int .i64 (k:Nat)∧ArrI wr w.heap.size g s.size l∧(∀j,j<k→j<s.size→l.getD j 0=(fb (L s) (j+1):Nat))∧Below w.heap.size w wr) (fun i _=>s.size-(intOf i).toNat)
 case atStart=>exact⟨1,_,by omega,.inr rfl,rfl,hown2,fun j h h2=>by
  obtain rfl:j=0:=EE
  rw[AK,List.getElem?_replicate,if_pos h2,fb_one];rfl,hb2⟩
 case round=>
  clear hown2 hb2
  obtain⟨k,l,hk1,hk,rfl,hrow,hl,hb⟩:=hrel
  obtain⟨wo,hwo⟩:∃wo:World,wo=wr:=⟨_,rfl⟩
  subst hwo
  have HL:=AA hl
  clear hl
  have hln:=hrow.len
  by_cases hlt:k<s.size
  ·have c0:=hrow.at_ (k:=k-1) EE
   rw[HL.out (k-1) EE EE,show k-1+1=k by omega] at c0
   have g1:decide ((k:Int)<(s.size:Int))=true:=AG EE
   have hfl:=A4c (L s) (n:=k) EE
   have HK0:=AA (KmpAt.start (s:=L s) (i:=k) EE)
   have HROW:=AA hrow
   clear hrow
   generalize fb (L s) k=f0 at*
   go_wp2_with fail
   go_loopw [7] (fun q wr=>∃x m:Nat,x<k∧q= .int .i64 x∧KmpAt (L s) k x∧wr=wo.drewN m) (fun q _=>(intOf q).toNat)
   case atStart=>exact⟨f0,0,hfl,rfl,HK0.out,by first|rfl|simp⟩
   case round=>
    clear HK0 hfl c0
    obtain⟨x,m,hx,rfl,hK,rfl⟩:=hrel
    have HK:=AA hK
    clear hK
    have hxs:x<s.size:=EE
    have e1:=getB s x EE
    have e2:=getB s k EE
    have hstep:∀(v:Nat),fb (L s) (k+1)=v→∀n,(∀j,j<k+1→j<s.size→(l.set k (v:Int)).getD j 0=(fb (L s) (j+1):Nat))∧ArrI ((wo.drewN n).setCell ⟨g,k,none⟩ (.int .i64 (v:Int))) w.heap.size g s.size (l.set k (v:Int)):=fun v hv n=>by
     refine⟨fun j h1 h2=> ?_,(HROW.out.drewN n).set_ k v⟩
     rw[A4t _ _ _ _ EE]
     by_cases hj:j=k
     ·rw[if_pos hj,hj,hv]
     ·rw[if_neg hj];exact HL.out j EE h2
    have HST:=AA hstep
    clear hstep
    have f1:=HROW.out.free k
    have c1:=HROW.out.at_ (k:=k) hlt
    by_cases hx0:0<x
    ·have g2:decide ((0:Int)<(x:Int))=true:=AG EE
     by_cases hne:s[x]=s[k]
     ·have g3:((s[x].toNat:Int) !=(s[k].toNat:Int))=false:=by rw[neB,Bg];exact fun h=>h hne
      have g4:((s[x].toNat:Int)==(s[k].toNat:Int))=true:=by rw[eqB,As];exact hne
      have HN:Hid (fb (L s) (k+1)=x+1):=HK.out.hit (by rw[←e1,←e2];exact hne)
      clear e1 e2 hne
      go_wp2_with fail
      go_quiet (fail)
      go_wp2_with fail
      go_quiet (fail)
      go_wp2_with fail
      go_roundw
      case rel=>
       obtain⟨h1,h2⟩:=HST.out (x+1) HN.out (m+2)
       exact C1G
      case measure=>simp[intOf];omega
     ·have g3:((s[x].toNat:Int) !=(s[k].toNat:Int))=true:=by rw[neB,As];exact hne
      have HN:Hid (KmpAt (L s) k (fb (L s) x)):=HK.out.next hx0 (by rw[←e1,←e2];exact hne)
      have hfx:=A4c (L s) hx0
      have c2:=HROW.out.at_ (k:=x-1) EE
      rw[HL.out (x-1) EE EE,show x-1+1=x by omega] at c2
      generalize fb (L s) x=f1 at*
      clear e1 e2 hne
      go_wp2_with fail
      go_quiet (fail)
      go_wp2_with fail
      go_roundw
      case rel=>exact⟨f1,m+nq,by omega,rfl,HN.out,by first|rfl|simp[World.drewN_drewN]|(rw[World.drewN_add])⟩
      case measure=>simp[intOf];omega
    ·obtain rfl:x=0:=EE
     have g2:decide ((0:Int)<((0:Nat):Int))=false:=by decide
     by_cases hne:s[0]=s[k]
     ·have g4:((s[0].toNat:Int)==(s[k].toNat:Int))=true:=by rw[eqB,As];exact hne
      have HN:Hid (fb (L s) (k+1)=0+1):=HK.out.hit (by rw[←e1,←e2];exact hne)
      clear e1 e2 hne
      go_wp2_with fail
      go_quiet (fail)
      go_wp2_with fail
      go_quiet (fail)
      go_wp2_with fail
      go_roundw
      case rel=>
       obtain⟨h1,h2⟩:=HST.out (0+1) HN.out (m+2)
       exact C1G
      case measure=>simp[intOf];omega
     ·have g4:((s[0].toNat:Int)==(s[k].toNat:Int))=false:=by rw[eqB,Bg];exact hne
      have HN:Hid (fb (L s) (k+1)=0):=HK.out.miss (by rw[←e1,←e2];exact hne)
      clear e1 e2 hne
      go_wp2_with fail
      go_quiet (fail)
      go_wp2_with fail
      go_quiet (fail)
      go_wp2_with fail
      go_roundw
      case rel=>
       obtain⟨h1,h2⟩:=HST.out 0 HN.out (m+2)
       exact C1G
      case measure=>simp[intOf];omega
  ·have g1:decide ((k:Int)<(s.size:Int))=false:=AC EE
   have HROW:=AA hrow
   clear hrow
   go_wp2_with fail
   go_ret2
   refine⟨g,rfl, ?_,hb⟩
   have:l=bI (L s) s.size:=eq_bI hln fun j hj=>HL.out j EE hj
   rw[←this];exact HROW.out
theorem A3v(l:List (List UInt8))(x:List UInt8):strCells l++ [.string (S x)]=strCells (l++ [x]):=by simp[strCells]
theorem SpAt.addW{s:List UInt8}{out:List (List UInt8)}{at_ p:Nat}{U:List UInt8}(h:SpAt s out at_)(hU:(s.drop at_).take p=U)(hw:LyW U)(hn:at_+p≤s.length)(hl:∀u,out.getLast? =some u→¬u<U):
 SpAt s (out++ [U]) (at_+p):=by
 have hlu:U.length=p:=by rw[←hU,AV,AZ];omega
 have hg:∀i,i<p→U.getD i 0=s.getD (at_+i) 0:=fun i hi=>by
  rw[←hU,AK,Ba hi,BU,←AK]
 have hp:LyP s at_ p:=by
  unfold LyW at hw
  rw[hlu] at hw
  refine⟨hw.1,fun d h1 h2=> ?_⟩
  obtain⟨j,h3,h4,h5⟩:=hw.2 d h1 h2
  refine⟨j,h3,fun i hi=> ?_, ?_⟩
  ·have:=h4 i hi
   rw[An,An,hg i EE,hg (d+i) EE] at this
   rw[Dj];exact this
  ·rw[An,An,hg j EE,hg (d+j) EE] at h5
   rw[Dj at_ d j];exact h5
 have:=h.add hp hn (by rw[hU];exact hl)
 rw[hU] at this
 exact this
theorem DuAt.copy{s:List UInt8}{at_ i k m:Nat}(h:DuAt s at_ i k)(hk:k≤s.length)(hm:at_+m*(k-i)≤i):(s.drop (at_+m*(k-i))).take (k-i)=(s.drop at_).take (k-i):=by
 have h1:=h.le;have h2:=h.lt
 have hM:=h.mod_
 generalize hp:k-i=p at*
 apply CO
 ·simp only[AV,AZ];omega
 ·intro t ht1 ht2
  simp only[AV,AZ] at ht1 ht2
  rw[Da,Da,List.getElem_drop,List.getElem_drop]
  have e:=hM (m*p+t) EE
  rw[Ck m p,Nat.mul_add_mod,Bk EE,Ck p m] at e
  rw[show at_+(m*p+t)=at_+m*p+t by omega,AK,AL EE,AK,AL EE] at e
  exact e
theorem A9w(s:ByteArray)(hs:200<s.size)(w:World):
 Calls Tryz.prog 151 #[.string s] w fun e w'=>e= .returned (.tuple #[.slice none 0 0,.int .i64 2])∧Below w.heap.size w w':=by
 have HE:Hid (A0W s.size=2):=by unfold Hid A0W;rw[if_pos hs]
 go_enter Tryz.func151,Tryz.ntmps151
 exact C1L
structure EmAt (s:List UInt8) (at_ i k m a:Nat) (out:List (List UInt8)):Prop where
 ea:a=at_+m*(k-i)
 le:a≤k
 sp:SpAt s out a
 no:∀u,out.getLast? =some u→¬u<(s.drop at_).take (k-i)
 la:1≤m→out.getLast? =some ((s.drop at_).take (k-i))
 len:out.length≤a
theorem EmAt.step{s:List UInt8}{at_ i k m a:Nat}{out:List (List UInt8)}(h:EmAt s at_ i k m a out)(hd:DuAt s at_ i k)(hk:k≤s.length)(hi:a≤i):
 EmAt s at_ i k (m+1) (a+(k-i)) (out++ [(s.drop a).take (k-i)]):=by
 have ha:=h.ea
 have h1:=hd.le;have h2:=hd.lt
 have hc:(s.drop a).take (k-i)=(s.drop at_).take (k-i):=by
  rw[ha];exact hd.copy hk EE
 have hw:LyW ((s.drop at_).take (k-i)):=B3r hd.ly EE
 refine⟨by rw[ha,Cl];omega,by omega, ?_, ?_, ?_, ?_⟩
 ·rw[hc];exact h.sp.addW hc hw EE h.no
 ·intro u hu
  rw[List.getLast?_concat] at hu
  obtain rfl:=Aw hu
  rw[hc];exact Cz _
 ·intro _;rw[List.getLast?_concat,hc]
 ·rw[AJ,Ah]
  have:=h.len;omega
theorem EmAt.fin{s:List UInt8}{at_ i k m a:Nat}{out:List (List UInt8)}(h:EmAt s at_ i k m a out)(hd:DuAt s at_ i k)(hk:k≤s.length)(he:k<s.length→s.getD k 0<s.getD i 0)(hi:i<a):
 ∀u,out.getLast? =some u→NIr u (s.drop a):=by
 have h1:=hd.le;have h2:=hd.lt
 have hm:1≤m:=by
  rcases BP m with h0|h0
  ·exfalso;have:=h.ea;rw[h0,Nat.zero_mul] at this;omega
  ·exact h0
 intro u hu
 rw[h.la hm] at hu
 obtain rfl:=Aw hu
 have:=h.ea
 have hle:=h.le
 rw[this] at hi hle⊢
 exact ni_end hd hk he hle hm hi
theorem A6R(s:ByteArray)(hs:s.size≤200)(w:World):
 Calls Tryz.prog 151 #[.string s] w fun e w'=>∃v out,e= .returned (.tuple #[v,.int .i64 0])∧SpAt (L s) out s.size∧out.length≤s.size∧w'.ownsRow w.heap.size 9 1 v out.length (strCells out)∧Below w.heap.size w w':=by
 obtain⟨i0,hi0,hz0,hz1,hz2⟩:=info_parts A6q
 have HE:Hid (A0W s.size=0):=by unfold Hid A0W;rw[if_neg EE]
 have HLL:Hid ((L s).length=s.size):=A0e s
 go_enter Tryz.func151,Tryz.ntmps151
 go_wp2_with fail
 refine(A1t s _).mono ?_
 rintro e w1 ⟨rfl,hb1⟩
 rw[HE.out]
 go_wp2_with fail
 go_loopw [5,6] (fun o a wr=>∃(at_:Nat) (out:List (List UInt8)),a= .int .i64 (at_:Int)∧at_≤s.size∧SpAt (L s) out at_∧(∀u,out.getLast? =some u→NIr u ((L s).drop at_))∧out.length≤at_∧wr.ownsRow w.heap.size 9 1 o out.length (strCells out)∧Below w.heap.size w wr) (fun _ a _=>s.size-(intOf a).toNat)
 case atStart=>exact⟨0,[],rfl,AS _,SpAt.start _,fun u h=>by simp at h,AD _,Ad _ _ _ _,hb1⟩
 case round=>
  clear hb1
  obtain⟨at_,out,rfl,hat,hsp,hni,hol,hown,hb⟩:=hrel
  obtain⟨wo,hwo⟩:∃wo:World,wo=wr:=⟨_,rfl⟩
  subst hwo
  have HSP:=AA hsp
  have HNI:=AA hni
  have HOWN:=AA hown
  clear hsp hni hown
  by_cases hlt:at_<s.size
  ·have g1:decide ((at_:Int)<(s.size:Int))=true:=AG EE
   go_wp2_with fail
   go_loopw [7,8] (fun i k wr=>∃i' k' m:Nat,i= .int .i64 (i':Int)∧k= .int .i64 (k':Int)∧DuAt (L s) at_ i' k'∧k'≤s.size∧wr=wo.drewN m) (fun _ k _=>s.size-(intOf k).toNat)
   case atStart=>exact⟨at_,at_+1,0,rfl,by first|rfl|go_num,DuAt.start _ _,by omega,rfl⟩
   case round=>
    obtain⟨i,k,m,rfl,rfl,hdu,hk,rfl⟩:=hrel
    have h1:=hdu.le
    have h2:=hdu.lt
    have HDU:=AA hdu
    clear hdu
    have his:i<s.size:=EE
    by_cases hks:k<s.size
    ·have g2:decide ((k:Int)<(s.size:Int))=true:=AG EE
     have e1:=getB s i his
     have e2:=getB s k hks
     rcases De s[i].toNat s[k].toNat with hc|hc|hc
     ·have g3:decide (s[i].toNat≤s[k].toNat)=true:=AG EE
      have g4:decide (s[i].toNat<s[k].toNat)=true:=AG EE
      have HN:Hid (DuAt (L s) at_ at_ (k+1)):=HDU.out.less (by rw[←e1,←e2];exact hc)
      clear e1 e2 hc
      go_wp2_with fail
      go_quiet (fail)
      go_wp2_with fail
      go_quiet (fail)
      go_wp2_with fail
      go_roundw
      case rel=>exact⟨at_,k+1,_,rfl,by go_num,HN.out,by omega,rfl⟩
      case measure=>simp[intOf];omega
     ·have g3:decide (s[i].toNat≤s[k].toNat)=true:=AG EE
      have g4:decide (s[i].toNat<s[k].toNat)=false:=AC EE
      have HN:Hid (DuAt (L s) at_ (i+1) (k+1)):=HDU.out.same (by rw[←e1,←e2];exact Bo.1 hc)
      clear e1 e2 hc
      go_wp2_with fail
      go_quiet (fail)
      go_wp2_with fail
      go_quiet (fail)
      go_wp2_with fail
      go_roundw
      case rel=>exact⟨i+1,k+1,_,by go_num,by go_num,HN.out,by omega,rfl⟩
      case measure=>simp[intOf];omega
     ·have g3:decide (s[i].toNat≤s[k].toNat)=false:=AC EE
      have HEX:Hid (k<(L s).length→(L s).getD k 0<(L s).getD i 0):=fun _=>by rw[←e1,←e2];exact hc
      clear e1 e2 hc
      go_wp2_with fail
      go_quiet (fail)
      go_wp2_with fail
      have hbD:=A0d (A0d hb m) nq
      have HOD:Hid ((wo.drewN (m+nq)).ownsRow w.heap.size 9 1 u5 out.length (strCells out)):=HOWN.out
      go_loopw [5,6] (fun o a wr=>∃(c a':Nat) (out':List (List UInt8)),a= .int .i64 (a':Int)∧EmAt (L s) at_ i k c a' out'∧wr.ownsRow w.heap.size 9 1 o out'.length (strCells out')∧Below w.heap.size w wr) (fun _ a _=>s.size-(intOf a).toNat)
      case atStart=>exact⟨0,at_,out,rfl,⟨by omega,by omega,HSP.out,fun u hu=>HNI.out u hu (k-i),fun h=>by omega,hol⟩,HOD.out,hbD⟩
      case round=>
       exact C0J
    ·have hkk:k=s.size:=EE
     have g2:decide ((k:Int)<(s.size:Int))=false:=AC EE
     have HEX:Hid (k<(L s).length→(L s).getD k 0<(L s).getD i 0):=fun h=>by rw[HLL.out] at h;omega
     clear hkk
     go_wp2_with fail
     go_quiet (fail)
     go_wp2_with fail
     have hbD:=A0d (A0d hb m) nq
     have HOD:Hid ((wo.drewN (m+nq)).ownsRow w.heap.size 9 1 u5 out.length (strCells out)):=HOWN.out
     go_loopw [5,6] (fun o a wr=>∃(c a':Nat) (out':List (List UInt8)),a= .int .i64 (a':Int)∧EmAt (L s) at_ i k c a' out'∧wr.ownsRow w.heap.size 9 1 o out'.length (strCells out')∧Below w.heap.size w wr) (fun _ a _=>s.size-(intOf a).toNat)
     case atStart=>exact⟨0,at_,out,rfl,⟨by omega,by omega,HSP.out,fun u hu=>HNI.out u hu (k-i),fun h=>by omega,hol⟩,HOD.out,hbD⟩
     case round=>
      exact C0J
  ·have g1:decide ((at_:Int)<(s.size:Int))=false:=AC EE
   obtain rfl:at_=s.size:=EE
   go_wp2_with fail
   go_ret2
   exact⟨_,out,rfl,HSP.out,hol,HOWN.out,hb⟩
end Go.Proofs.YtplgghjdidmcfaaGreatDoor
