/- Written anew, smaller, by a program of our own out of our texts. No condition of our own. -/
import Derived.Test.YtplgghjdidmcfaaGreatDoorQ01
import Derived.Test.YtplgghjdidmcfaaGreatDoorQ05
import Derived.BigRegion
import Derived.Test.YtplgghjdidmcfaaGreatDoorQ07
set_option maxRecDepth 100000
set_option maxHeartbeats 16000000
set_option linter.all false
namespace Go.Proofs.YtplgghjdidmcfaaGreatDoor
open Go.RowKit
theorem C1B{P:Prop}(h:P:=by
 simp only[DJ]
 rw[B0h _ _ _ _ EE]
 by_cases hq:q=k
 ·subst hq;rw[if_pos rfl];exact hv
 ·rw[if_neg hq];exact h.new q EE h2
 ):P:=h
theorem C2d{P:Prop}(h:P:=by
 by_cases hj:j=i
 ·subst hj;exact HF.out.new q (AS _) hq
 ·exact HF.out.old j EE h2 q hq
 ):P:=h
end Go.Proofs.YtplgghjdidmcfaaGreatDoor
namespace Go.Proofs.YtplgghjdidmcfaaGreatDoor
def lcs:List UInt8→List UInt8→Nat
 |[],_=>0
 |_,[]=>0
 |x::a,y::b=>if x=y then lcs a b+1 else max (lcs a (y::b)) (lcs (x::a) b)
termination_by a b=>a.length+b.length
theorem A5u(b:List UInt8):lcs [] b=0:=by rw[lcs]
theorem A6G(a:List UInt8):lcs a []=0:=by cases a<;>simp[lcs]
theorem B1P(x y:UInt8)(a b:List UInt8):lcs (x::a) (y::b)=if x=y then lcs a b+1 else max (lcs a (y::b)) (lcs (x::a) b):=by rw[lcs]
inductive Cm:List UInt8→List UInt8→Nat→Prop
 |nil:Cm [] [] 0
 |both {a b n} (x):Cm a b n→Cm (x::a) (x::b) (n+1)
 |left {a b n} (x):Cm a b n→Cm (x::a) b n
 |right {a b n} (y):Cm a b n→Cm a (y::b) n
theorem B1Q(b:List UInt8):Cm [] b 0:=by
 induction b with
 |nil=>exact .nil
 |cons y b ih=>exact .right y ih
theorem B8T(a:List UInt8):Cm a [] 0:=by
 induction a with
 |nil=>exact .nil
 |cons y b ih=>exact .left y ih
theorem cm_lcs:∀(n:Nat) (a b:List UInt8),a.length+b.length≤n→Cm a b (lcs a b):=by
 intro n
 induction n with
 |zero=>
  intro a b h
  cases a with
  |nil=>rw[A5u];exact B1Q b
  |cons=>simp only[AM] at h;omega
 |succ n ih=>
  intro a b h
  cases a with
  |nil=>rw[A5u];exact B1Q b
  |cons x a=>
   cases b with
   |nil=>rw[A6G];exact B8T _
   |cons y b=>
    simp only[AM] at h
    have h1:=ih a b EE
    have h2:=ih a (y::b) (by simp only[AM];omega)
    have h3:=ih (x::a) b (by simp only[AM];omega)
    rw[B1P]
    split
    ·rename_i e;subst e;exact .both _ h1
    ·rcases Nat.le_total (lcs a (y::b)) (lcs (x::a) b) with e|e
     ·rw[Nat.max_eq_right e];exact .right _ h3
     ·rw[Nat.max_eq_left e];exact .left _ h2
theorem A6e(a b:List UInt8):lcs a b≤a.length∧lcs a b≤b.length:=by
 have key:∀{a b:List UInt8} {n},Cm a b n→n≤a.length∧n≤b.length:=by
  intro a b n h
  induction h with
  |nil=>simp
  |both x h ih=>simp only[AM];omega
  |left x h ih=>simp only[AM];omega
  |right x h ih=>simp only[AM];omega
 exact key (cm_lcs _ a b (AD _))
end Go.Proofs.YtplgghjdidmcfaaGreatDoor
namespace Go.Proofs.YtplgghjdidmcfaaGreatDoor
open Go.RowKit
theorem B0h(l:List Int)(k j:Nat)(v:Int)(h:k<l.length):(l.set k v).getD j 0=if j=k then v else l.getD j 0:=by
 exact B9W
theorem A5G(s:ByteArray)(k:Nat)(h:k<s.size):(L s).drop k=s[k]::(L s).drop (k+1):=by
 rw[Ag (by rw[A0e];exact h),getB s k h,AK,AL (by rw[A0e];exact h)];rfl
structure FarIn (s t:ByteArray) (w wr:World) (gT:Nat) (G:Nat→Nat) (i k:Nat) (R:Nat→List Int):Prop where
 tab:Tab wr w.heap.size gT (s.size+1) (t.size+1) (fun j=>i≤j∧j≤s.size) G R
 old:∀j,i+1≤j→j≤s.size→∀k,k≤t.size→(R j).getD k 0=(lev ((L s).drop j) ((L t).drop k):Nat)
 new:∀k',k≤k'→k'≤t.size→(R i).getD k' 0=(lev ((L s).drop i) ((L t).drop k'):Nat)
theorem FarIn.step{s t:ByteArray}{w wr:World}{gT:Nat}{G:Nat→Nat}{i k:Nat}{R:Nat→List Int}(h:FarIn s t w wr gT G i (k+1) R)(hi:i≤s.size)(hk:k≤t.size){v:Int}(hv:v=(lev ((L s).drop i) ((L t).drop k):Nat)):
 FarIn s t w (wr.setCell ⟨G i,k,none⟩ (.int .i64 v)) gT G i k (fun j=>if j=i then(R i).set k v else R j):=by
 have hl:=(h.tab.row i ⟨AD _,hi⟩).len
 refine⟨h.tab.set_ ⟨AD _,hi⟩ k v,fun j h1 h2 q hq=> ?_,fun q h1 h2=> ?_⟩
 ·simp only[show¬j=i by omega,CD];exact h.old j h1 h2 q hq
 ·exact C1B
theorem FarIn.drewN{s t:ByteArray}{w wr:World}{gT:Nat}{G:Nat→Nat}{i k:Nat}{R:Nat→List Int}(h:FarIn s t w wr gT G i k R)(n:Nat):FarIn s t w (wr.drewN n) gT G i k R:=
 ⟨h.tab.drewN n,h.old,h.new⟩
theorem B0M(s t:ByteArray)(k:Nat)(hk:k≤t.size):((t.size:Int)-(k:Int))=(lev ((L s).drop s.size) ((L t).drop k):Nat):=by
 rw[Au (by rw[A0e];exact AD _),A1w,AZ,A0e];omega
theorem A9A(s t:ByteArray)(i:Nat)(hi:i≤s.size):((s.size:Int)-(i:Int))=(lev ((L s).drop i) ((L t).drop t.size):Nat):=by
 rw[Au (l:=L t) (by rw[A0e];exact AD _),A1D,AZ,A0e];omega
theorem B5Y(s t:ByteArray)(hs:s.size≤200)(ht:t.size≤200)(w:World):
 Calls Tryz.prog 159 #[.string s,.string t] w fun e w'=>e= .returned (.int .i64 (lev (L s) (L t):Nat))∧Below w.heap.size w w':=by
 obtain⟨i0,hi0,hz0,hz1,hz2⟩:=info_parts A1E
 obtain⟨j0,hj0,jz0,jz1,jz2⟩:=info_parts B1t
 go_enter Tryz.func159,Tryz.ntmps159
 go_wp2_with (at_make;go_must (refine wpList_make_full _ rfl _ _ _ rfl w.heap.size 91 j0 _ 1 Tryz.underlying139 hj0 jz0 jz1 .i64 .i64 ((s.size:Int)+1) ((s.size:Int)+1) (s.size+1) rfl rfl EE EE (by rw[jz2];omega) (by unfold maxLen;omega) (AD _) ?_);intro w2 hown2 hg2)
 have hb2:Below w.heap.size w w2:=(AI _ _).grown hg2 (AD _) (fun _ h=>by cases h)
 clear hg2
 go_loopw [6] (fun i wr=>∃(i':Nat) (G:Nat→Nat) (R:Nat→List Int),i'≤s.size+1∧i= .int .i64 ((i':Int)-1)∧Tab wr w.heap.size w.heap.size (s.size+1) (t.size+1) (fun j=>i'≤j∧j≤s.size) G R∧
  (∀j,i'≤j→j≤s.size→∀k,k≤t.size→(R j).getD k 0=(lev ((L s).drop j) ((L t).drop k):Nat))∧Below w.heap.size w wr) (fun i _=>(intOf i+1).toNat)
 case atStart=>
  refine⟨s.size+1,fun _=>0,fun _=> [],AD _,by go_num, ?_,fun j h1 h2=>by omega,hb2⟩
  have h0:=Tab.start hown2 (t.size+1) (fun _=>0) (fun _=> [])
  exact⟨h0.top.imp fun xs h=>⟨h.1,fun i hi=>by omega⟩,fun i hi=>by omega,fun i hi=>by omega,fun i j hi=>by omega⟩
 case round=>
  obtain⟨i,G,R,hi,rfl,hT,hR,hb⟩:=hrel
  obtain⟨wo,hwo⟩:∃wo:World,wo=wr:=⟨_,rfl⟩
  subst hwo
  have HT:=AA hT
  have HRv:=AA hR
  clear hR
  have hbs:=hb.size
  have hgl:=hT.gT_lt.2
  by_cases hi0':0<i
  ·obtain⟨i,rfl⟩:∃j,i=j+1:=⟨i-1,by omega⟩
   have e0:(((i+1:Nat):Int)-1)=(i:Int):=EE
   rw[e0]
   obtain⟨u0,cs0,cf0⟩:=hT.slot (i:=i) EE
   clear hT
   go_wp2_with (at_make;go_must (refine wpList_make_full _ rfl _ _ _ rfl w.heap.size 3 i0 _ 1 Tryz.underlying91 hi0 hz0 hz1 .i64 .i64 ((t.size:Int)+1) ((t.size:Int)+1) (t.size+1) rfl rfl EE EE (by rw[hz2];omega) (by unfold maxLen;omega) hbs ?_);intro w3 hown3 hg3;have hcs3:=(hg3.cell cs0 EH);have hcf3:=(hg3.frozen_far ⟨w.heap.size,i,none⟩ hgl EH).trans cf0)
   have hb3:Below wo.heap.size wo w3:=(AI _ _).grown hg3 (AD _) (fun _ h=>by cases h)
   have hrow3:ArrI w3 w.heap.size wo.heap.size (t.size+1) (List.replicate (t.size+1) 0):=by
    rw[A4H] at hown3;exact hown3
   have HF0:Hid (FarIn s t w (w3.setCell ⟨w.heap.size,i,none⟩ (.slice (some ⟨wo.heap.size,0,none⟩) (t.size+1) (t.size+1))) w.heap.size (fun j=>if j=i then wo.heap.size else G j) i (t.size+1) (fun j=>if j=i then List.replicate (t.size+1) 0 else R j)):=by
    refine⟨((HT.out.below hb3).add (i:=i) (fun h=>by omega) EE hrow3 (fun j hj=>by have:=(HT.out.row j hj).lt.2;omega)).congr (fun j=>by omega),fun j h1 h2 q hq=> ?_,fun q h1 h2=>by omega⟩
    simp only[show¬j=i by omega,CD];exact HRv.out j h1 h2 q hq
   have hB4:Below w.heap.size w (w3.setCell ⟨w.heap.size,i,none⟩ (.slice (some ⟨wo.heap.size,0,none⟩) (t.size+1) (t.size+1))):=BY (A0h hb hb3) (AD _) _
   clear hown3 hrow3 hg3 hb3 hcs3 hcf3 cs0 cf0
   generalize(fun j=>if j=i then wo.heap.size else G j)=G' at*
   generalize(fun j=>if j=i then List.replicate (t.size+1) 0 else R j)=R0 at*
   generalize(w3.setCell ⟨w.heap.size,i,none⟩ (.slice (some ⟨wo.heap.size,0,none⟩) (t.size+1) (t.size+1)))=w4 at*
   go_loopw [7] (fun k wr=>∃(k':Nat) (R':Nat→List Int),k'≤t.size+1∧k= .int .i64 ((k':Int)-1)∧FarIn s t w wr w.heap.size G' i k' R'∧Below w.heap.size w wr) (fun k _=>(intOf k+1).toNat)
   case atStart=>exact⟨t.size+1,R0,AD _,by go_num,HF0.out,hB4⟩
   case round=>
    clear HF0 hB4 hb hbs hgl
    obtain⟨k,R',hk,rfl,hF,hb⟩:=hrel
    have HF:=AA hF
    have hbs:=hb.size
    by_cases hk0:0<k
    ·obtain⟨k,rfl⟩:∃j,k=j+1:=⟨k-1,by omega⟩
     have e1:(((k+1:Nat):Int)-1)=(k:Int):=EE
     rw[e1]
     have pI:=hF.tab.ptr (i:=i) ⟨AD _,by omega⟩
     have rI:=(hF.tab.row i ⟨AD _,by omega⟩).at_ (k:=k) EE
     have fI:=(hF.tab.row i ⟨AD _,by omega⟩).free k
     have gI:=(hF.tab.row i ⟨AD _,by omega⟩).lt
     obtain⟨gI0,gI1⟩:=gI
     have HS:Hid (∀v:Int,v=(lev ((L s).drop i) ((L t).drop k):Nat)→FarIn s t w (wr.setCell ⟨G' i,k,none⟩ (.int .i64 v)) w.heap.size G' i k (fun j=>if j=i then(R' i).set k v else R' j)):=fun v hv=>HF.out.step EE EE hv
     have HD:Hid (∀(n:Nat) (v:Int),v=(lev ((L s).drop i) ((L t).drop k):Nat)→FarIn s t w ((wr.drewN n).setCell ⟨G' i,k,none⟩ (.int .i64 v)) w.heap.size G' i k (fun j=>if j=i then(R' i).set k v else R' j)):=fun n v hv=>(HF.out.drewN n).step EE EE hv
     generalize(R' i).getD k 0=old at*
     by_cases his:i=s.size
     ·have HV:=AA (B0M s t k EE)
      have g1:((i:Int)==(s.size:Int))=true:=by rw[his];simp
      have HIS:=AA his
      clear his hF
      go_wp2_with fail
      go_roundw
      case rel=>exact⟨k,_,by omega,by go_num,HS.out _ (by rw[HV.out,HIS.out]),BY hb gI0 _⟩
      case measure=>simp[intOf]
     ·have g1:((i:Int)==(s.size:Int))=false:=by rw[AH];omega
      have hil:i<s.size:=EE
      by_cases hkt:k=t.size
      ·have HV:=AA (A9A s t i EE)
       have g2:((k:Int)==(t.size:Int))=true:=by rw[hkt];simp
       have HKT:=AA hkt
       clear hkt hF
       go_wp2_with fail
       go_roundw
       case rel=>exact⟨k,_,by omega,by go_num,HS.out _ (by rw[HV.out,HKT.out]),BY hb gI0 _⟩
       case measure=>simp[intOf]
      ·have g2:((k:Int)==(t.size:Int))=false:=by rw[AH];omega
       have hkl:k<t.size:=EE
       have p1:=hF.tab.ptr (i:=i+1) ⟨by omega,by omega⟩
       have r10:=(hF.tab.row (i+1) ⟨by omega,by omega⟩).at_ (k:=k) EE
       have r11:=(hF.tab.row (i+1) ⟨by omega,by omega⟩).at_ (k:=k+1) EE
       have r01:=(hF.tab.row i ⟨AD _,by omega⟩).at_ (k:=k+1) EE
       rw[hF.old (i+1) (AD _) EE k EE] at r10
       rw[hF.old (i+1) (AD _) EE (k+1) EE] at r11
       rw[hF.new (k+1) (AD _) EE] at r01
       have HLV:Hid (lev ((L s).drop i) ((L t).drop k)=if s[i]=t[k] then lev ((L s).drop (i+1)) ((L t).drop (k+1)) else 1+min (lev ((L s).drop (i+1)) ((L t).drop k)) (min (lev ((L s).drop i) ((L t).drop (k+1))) (lev ((L s).drop (i+1)) ((L t).drop (k+1))))):=by
        have h1:=A5G s i hil
        have h2:=A5G t k hkl
        unfold Hid
        rw[h1,h2,A1X]
       have z1:=A5i ((L s).drop (i+1)) ((L t).drop k)
       have z2:=A5i ((L s).drop (i+1)) ((L t).drop (k+1))
       have z3:=A5i ((L s).drop i) ((L t).drop (k+1))
       simp only[AZ,A0e] at z1 z2 z3
       have y1:lev ((L s).drop (i+1)) ((L t).drop k)≤400:=EE
       have y2:lev ((L s).drop (i+1)) ((L t).drop (k+1))≤400:=EE
       have y3:lev ((L s).drop i) ((L t).drop (k+1))≤400:=EE
       clear z1 z2 z3 hF
       generalize lev ((L s).drop (i+1)) ((L t).drop k)=x1 at*
       generalize lev ((L s).drop (i+1)) ((L t).drop (k+1))=x2 at*
       generalize lev ((L s).drop i) ((L t).drop (k+1))=x3 at*
       by_cases he:s[i]=t[k]
       ·have g3:((s[i].toNat:Int)==(t[k].toNat:Int))=true:=by rw[he];simp
        have HL2:=AA (HLV.out.trans (if_pos he))
        clear he HLV
        go_wp2_with fail
        go_quiet (fail)
        go_wp2_with fail
        go_region
        go_wp2_with fail
        go_roundw
        case rel=>exact⟨k,_,by omega,by go_num,HD.out _ _ (by rw[HL2.out]),BY (A0d hb _) gI0 _⟩
        case measure=>simp[intOf]
       ·have g3:((s[i].toNat:Int)==(t[k].toNat:Int))=false:=by
         exact B9J
        have HL2:=AA (HLV.out.trans (if_neg he))
        clear he HLV
        go_wp2_with fail
        go_quiet (fail)
        go_wp2_with fail
        go_region
        go_wp2_with fail
        go_roundw
        case rel=>exact⟨k,_,by omega,by go_num,HD.out _ _ (by rw[HL2.out];split<;>split<;>omega),BY (A0d hb _) gI0 _⟩
        case measure=>simp[intOf]
    ·obtain rfl:k=0:=EE
     clear hF
     go_wp2_with fail
     go_roundw
     case rel=>
      refine⟨i,G',R',by omega,by go_num,HF.out.tab,fun j h1 h2 q hq=> ?_,hb⟩
      exact C2d
     case measure=>simp[intOf]
  ·obtain rfl:i=0:=EE
   have p0:=hT.ptr (i:=0) ⟨AD _,AS _⟩
   have r0:=(hT.row 0 ⟨AD _,AS _⟩).at_ (k:=0) EE
   rw[HRv.out 0 (AD _) (AS _) 0 (AS _)] at r0
   clear hT
   go_wp2_with fail
   go_ret
   exact⟨by simp,Ds⟩
def lcsD(s t:ByteArray)(i k:Nat):Nat:=lcs ((L s).drop i) ((L t).drop k)
theorem B0i(s t:ByteArray)(k:Nat):lcsD s t s.size k=0:=by
 unfold lcsD;rw[Au (by rw[A0e];exact AD _),A5u]
theorem A8H(s t:ByteArray)(i:Nat):lcsD s t i t.size=0:=by
 unfold lcsD;rw[Au (l:=L t) (by rw[A0e];exact AD _),A6G]
theorem A7e(s t:ByteArray)(i k:Nat)(hi:i<s.size)(hk:k<t.size):lcsD s t i k=if s[i]=t[k] then lcsD s t (i+1) (k+1)+1 else max (lcsD s t (i+1) k) (lcsD s t i (k+1)):=by
 have h1:=A5G s i hi
 have h2:=A5G t k hk
 unfold lcsD
 rw[h1,h2,B1P]
theorem A9B(s t:ByteArray)(i k:Nat):lcsD s t i k≤s.size∧lcsD s t i k≤t.size:=by
 have:=A6e ((L s).drop i) ((L t).drop k)
 simp only[AZ,A0e] at this
 unfold lcsD;omega
theorem A7f(s t:ByteArray):lcsD s t 0 0=lcs (L s) (L t):=rfl
structure SameIn (s t:ByteArray) (base:Nat) (wr:World) (gT:Nat) (G:Nat→Nat) (i k:Nat) (R:Nat→List Int):Prop where
 tab:Tab wr base gT (s.size+1) (t.size+1) (fun j=>j≤s.size) G R
 old:∀j,i+1≤j→j≤s.size→∀k,k≤t.size→(R j).getD k 0=(lcsD s t j k:Nat)
 new:∀k',k≤k'→k'≤t.size→(R i).getD k' 0=(lcsD s t i k':Nat)
 edge:∀j,j≤s.size→(R j).getD t.size 0=0
theorem SameIn.step{s t:ByteArray}{base:Nat}{wr:World}{gT:Nat}{G:Nat→Nat}{i k:Nat}{R:Nat→List Int}(h:SameIn s t base wr gT G i (k+1) R)(hi:i≤s.size)(hk:k<t.size)(n:Nat){v:Int}(hv:v=(lcsD s t i k:Nat)):
 SameIn s t base ((wr.drewN n).setCell ⟨G i,k,none⟩ (.int .i64 v)) gT G i k (fun j=>if j=i then(R i).set k v else R j):=by
 have hl:=(h.tab.row i hi).len
 refine⟨(h.tab.drewN n).set_ hi k v,fun j h1 h2 q hq=> ?_,fun q h1 h2=> ?_,fun j h1=> ?_⟩
 ·simp only[show¬j=i by omega,CD];exact h.old j h1 h2 q hq
 ·exact C1B
 ·by_cases hj:j=i
  ·subst hj
   simp only[DJ]
   rw[B0h _ _ _ _ EE,if_neg EE];exact h.edge j h1
  ·simp only[hj,CD];exact h.edge j h1
structure SameTab (s t:ByteArray) (base:Nat) (wr:World) (gT:Nat) (G:Nat→Nat) (R:Nat→List Int):Prop where
 tab:Tab wr base gT (s.size+1) (t.size+1) (fun j=>j≤s.size) G R
 val:∀j,j≤s.size→∀k,k≤t.size→(R j).getD k 0=(lcsD s t j k:Nat)
theorem SameTab.below{s t:ByteArray}{base:Nat}{w w':World}{gT:Nat}{G:Nat→Nat}{R:Nat→List Int}(h:SameTab s t base w gT G R)(hb:Below w.heap.size w w'):SameTab s t base w' gT G R:=⟨h.tab.below hb,h.val⟩
theorem SameTab.cells{s t:ByteArray}{base:Nat}{w:World}{gT:Nat}{G:Nat→Nat}{R:Nat→List Int}(h:SameTab s t base w gT G R){i k:Nat}(hi:i≤s.size)(hk:k≤t.size):
 w.cell? ⟨gT,i,none⟩=some (.slice (some ⟨G i,0,none⟩) (t.size+1) (t.size+1))∧w.cell? ⟨G i,k,none⟩=some (.int .i64 (lcsD s t i k:Nat)):=by
 have h1:=h.tab.ptr (i:=i) hi
 have h2:=(h.tab.row i hi).at_ (k:=k) EE
 rw[h.val i hi k hk] at h2
 exact⟨h1,h2⟩
theorem A7g(s t:ByteArray)(hs:s.size≤200)(ht:t.size≤200)(w:World):
 Calls Tryz.prog 72 #[.string s,.string t] w fun e w'=>∃G R,e= .returned (.slice (some ⟨w.heap.size,0,none⟩) (s.size+1) (s.size+1))∧SameTab s t w.heap.size w' w.heap.size G R∧Below w.heap.size w w':=by
 obtain⟨i0,hi0,hz0,hz1,hz2⟩:=info_parts A1E
 obtain⟨j0,hj0,jz0,jz1,jz2⟩:=info_parts B1t
 go_enter Tryz.func72,Tryz.ntmps72
 go_wp2_with (at_make;go_must (refine wpList_make_full _ rfl _ _ _ rfl w.heap.size 91 j0 _ 1 Tryz.underlying139 hj0 jz0 jz1 .i64 .i64 ((s.size:Int)+1) ((s.size:Int)+1) (s.size+1) rfl rfl EE EE (by rw[jz2];omega) (by unfold maxLen;omega) (AD _) ?_);intro w2 hown2 hg2)
 have hb2:Below w.heap.size w w2:=(AI _ _).grown hg2 (AD _) (fun _ h=>by cases h)
 clear hg2
 go_loopw [15] (fun i wr=>∃(k:Nat) (G:Nat→Nat) (R:Nat→List Int),k≤s.size+1∧i= .int .i64 k∧Tab wr w.heap.size w.heap.size (s.size+1) (t.size+1) (fun j=>j<k) G R∧
  (∀j,j<k→∀q,q≤t.size→(R j).getD q 0=0)∧Below w.heap.size w wr) (fun i _=>s.size+1-(intOf i).toNat)
 case atStart=>
  refine⟨0,fun _=>0,fun _=> [],AS _,rfl, ?_,fun j h1=>by omega,hb2⟩
  exact(Tab.start hown2 (t.size+1) (fun _=>0) (fun _=> [])).congr fun j=>⟨False.elim,fun h=>absurd h (DN _)⟩
 case round=>
  obtain⟨i,G,R,hi,rfl,hT,hR,hb⟩:=hrel
  obtain⟨wo,hwo⟩:∃wo:World,wo=wr:=⟨_,rfl⟩
  subst hwo
  have HT:=AA hT
  have HRv:=AA hR
  clear hR
  have hbs:=hb.size
  have hgl:=hT.gT_lt.2
  by_cases hlt:i<s.size+1
  ·have g1:decide ((i:Int)<(s.size:Int)+1)=true:=AG EE
   obtain⟨u0,cs0,cf0⟩:=hT.slot (i:=i) EE
   clear hT
   go_wp2_with (at_make;go_must (refine wpList_make_full _ rfl _ _ _ rfl w.heap.size 3 i0 _ 1 Tryz.underlying91 hi0 hz0 hz1 .i64 .i64 ((t.size:Int)+1) ((t.size:Int)+1) (t.size+1) rfl rfl EE EE (by rw[hz2];omega) (by unfold maxLen;omega) hbs ?_);intro w3 hown3 hg3;have hcs3:=(hg3.cell cs0 EH);have hcf3:=(hg3.frozen_far ⟨w.heap.size,i,none⟩ hgl EH).trans cf0)
   have hb3:Below wo.heap.size wo w3:=(AI _ _).grown hg3 (AD _) (fun _ h=>by cases h)
   have hrow3:ArrI w3 w.heap.size wo.heap.size (t.size+1) (List.replicate (t.size+1) 0):=by
    rw[A4H] at hown3;exact hown3
   have HF0:=AA (((HT.out.below hb3).add (i:=i) (fun h=>by omega) EE hrow3 (fun j hj=>by have:=(HT.out.row j hj).lt.2;omega)).congr (E':=fun j=>j<i+1) (fun j=>by omega))
   have hB4:Below w.heap.size w (w3.setCell ⟨w.heap.size,i,none⟩ (.slice (some ⟨wo.heap.size,0,none⟩) (t.size+1) (t.size+1))):=BY (A0h hb hb3) (AD _) _
   clear hown3 hrow3 hg3 hb3
   go_roundw
   case rel=>
    refine⟨i+1,_,_,by omega,by go_num,HF0.out,fun j hj q hq=> ?_,hB4⟩
    by_cases hji:j=i
    ·simp only[hji,DJ]
     rw[AK,AL (by rw[List.length_replicate];omega)];simp
    ·simp only[hji,CD];exact HRv.out j EE q hq
   case measure=>simp[intOf];omega
  ·obtain rfl:i=s.size+1:=EE
   have g1:decide (((s.size+1:Nat):Int)<(s.size:Int)+1)=false:=AC EE
   clear hT
   go_wp2_with fail
   go_loopw [7] (fun i wr=>∃(i':Nat) (R:Nat→List Int),i'≤s.size∧i= .int .i64 ((i':Int)-1)∧Tab wr w.heap.size w.heap.size (s.size+1) (t.size+1) (fun j=>j≤s.size) G R∧
    (∀j,i'≤j→j≤s.size→∀k,k≤t.size→(R j).getD k 0=(lcsD s t j k:Nat))∧(∀j,j≤s.size→(R j).getD t.size 0=0)∧Below w.heap.size w wr) (fun i _=>(intOf i+1).toNat)
   case atStart=>
    refine⟨s.size,R,AD _,by go_num,HT.out.congr (fun j=>by omega),fun j h1 h2 k hk=> ?_,fun j hj=>HRv.out j EE _ (AD _),hb⟩
    obtain rfl:j=s.size:=EE
    rw[B0i,HRv.out _ EE k hk];rfl
   case round=>
    clear HT HRv hb hbs hgl
    obtain⟨i,R,hi,rfl,hT,hR,hE,hb⟩:=hrel
    obtain⟨wo,hwo⟩:∃wo:World,wo=wr:=⟨_,rfl⟩
    subst hwo
    have HT:=AA hT
    have HRv:=AA hR
    have HE:=AA hE
    clear hR hE hT
    by_cases hi0':0<i
    ·obtain⟨i,rfl⟩:∃j,i=j+1:=⟨i-1,by omega⟩
     have e0:(((i+1:Nat):Int)-1)=(i:Int):=EE
     rw[e0]
     have HF0:Hid (SameIn s t w.heap.size wo w.heap.size G i t.size R):=⟨HT.out,fun j h1 h2 k hk=>HRv.out j h1 h2 k hk,fun k' h1 h2=>by
      obtain rfl:k'=t.size:=EE
      rw[A8H,HE.out i EE];rfl,HE.out⟩
     go_wp2_with fail
     go_loopw [8] (fun k wr=>∃(k':Nat) (R':Nat→List Int),k'≤t.size∧k= .int .i64 ((k':Int)-1)∧SameIn s t w.heap.size wr w.heap.size G i k' R'∧Below w.heap.size w wr) (fun k _=>(intOf k+1).toNat)
     case atStart=>exact⟨t.size,R,AD _,by go_num,HF0.out,hb⟩
     case round=>
      clear HF0 hb HT HRv HE
      obtain⟨k,R',hk,rfl,hF,hb⟩:=hrel
      have HF:=AA hF
      have hbs:=hb.size
      by_cases hk0:0<k
      ·obtain⟨k,rfl⟩:∃j,k=j+1:=⟨k-1,by omega⟩
       have e1:(((k+1:Nat):Int)-1)=(k:Int):=EE
       rw[e1]
       have hil:i<s.size:=EE
       have hkl:k<t.size:=EE
       have pI:=hF.tab.ptr (i:=i) (show i≤s.size by omega)
       have rI:=(hF.tab.row i (show i≤s.size by omega)).at_ (k:=k) EE
       have fI:=(hF.tab.row i (show i≤s.size by omega)).free k
       have gI:=(hF.tab.row i (show i≤s.size by omega)).lt
       obtain⟨gI0,gI1⟩:=gI
       have HD:Hid (∀(n:Nat) (v:Int),v=(lcsD s t i k:Nat)→SameIn s t w.heap.size ((wr.drewN n).setCell ⟨G i,k,none⟩ (.int .i64 v)) w.heap.size G i k (fun j=>if j=i then(R' i).set k v else R' j)):=fun n v hv=>HF.out.step EE hkl n hv
       generalize(R' i).getD k 0=old at*
       have p1:=hF.tab.ptr (i:=i+1) (show i+1≤s.size by omega)
       have r10:=(hF.tab.row (i+1) (show i+1≤s.size by omega)).at_ (k:=k) EE
       have r11:=(hF.tab.row (i+1) (show i+1≤s.size by omega)).at_ (k:=k+1) EE
       have r01:=(hF.tab.row i (show i≤s.size by omega)).at_ (k:=k+1) EE
       rw[hF.old (i+1) (AD _) EE k EE] at r10
       rw[hF.old (i+1) (AD _) EE (k+1) EE] at r11
       rw[hF.new (k+1) (AD _) EE] at r01
       have HLV:=AA (A7e s t i k hil hkl)
       have y1:=(A9B s t (i+1) k).1
       have y2:=(A9B s t (i+1) (k+1)).1
       have y3:=(A9B s t i (k+1)).1
       clear hF
       generalize lcsD s t (i+1) k=x1 at*
       generalize lcsD s t (i+1) (k+1)=x2 at*
       generalize lcsD s t i (k+1)=x3 at*
       by_cases he:s[i]=t[k]
       ·have g3:((s[i].toNat:Int)==(t[k].toNat:Int))=true:=by rw[he];simp
        have HL2:=AA (HLV.out.trans (if_pos he))
        clear he HLV
        go_wp2_with fail
        go_quiet (fail)
        go_wp2_with fail
        go_region
        go_wp2_with fail
        go_roundw
        case rel=>exact⟨k,_,by omega,by go_num,HD.out _ _ (by rw[HL2.out];go_num),BY (A0d hb _) gI0 _⟩
        case measure=>simp[intOf]
       ·have g3:((s[i].toNat:Int)==(t[k].toNat:Int))=false:=by
         exact B9J
        have HL2:=AA (HLV.out.trans (if_neg he))
        clear he HLV
        go_wp2_with fail
        go_quiet (fail)
        go_wp2_with fail
        go_region
        go_wp2_with fail
        go_roundw
        case rel=>exact⟨k,_,by omega,by go_num,HD.out _ _ (by rw[HL2.out];first|(split<;>omega)|omega|(simp only[Int.max_def,Nat.max_def];(repeat' split)<;>omega)),BY (A0d hb _) gI0 _⟩
        case measure=>simp[intOf]
      ·obtain rfl:k=0:=EE
       clear hF
       go_wp2_with fail
       go_roundw
       case rel=>
        refine⟨i,R',by omega,by go_num,HF.out.tab,fun j h1 h2 q hq=> ?_,HF.out.edge,hb⟩
        exact C2d
       case measure=>simp[intOf]
    ·obtain rfl:i=0:=EE
     go_wp2_with fail
     go_ret
     exact⟨G,R,by first|rfl|simp,⟨HT.out,fun j h1 k hk=>HRv.out j (AS _) h1 k hk⟩,Ds⟩
end Go.Proofs.YtplgghjdidmcfaaGreatDoor
namespace Go.Proofs.YtplgghjdidmcfaaGreatDoor
inductive Ms (a b:List UInt8):Nat→Nat→List (Nat×Nat)→Prop
 |nil (i k):i≤a.length→k≤b.length→Ms a b i k []
 |cons (i k x y r):i≤x→k≤y→x<a.length→y<b.length→a[x]? =b[y]?→Ms a b (x+1) (y+1) r→Ms a b i k ((x,y)::r)
def edOf(a b:List UInt8):Nat→Nat→List (Nat×Nat)→List Ed
 |i,k,[]=>if i<a.length∨k<b.length then [⟨i,a.length-i,b.drop k⟩] else []
 |i,k,(x,y)::r=>(if i<x∨k<y then [⟨i,x-i,(b.drop k).take (y-k)⟩] else [])++edOf a b (x+1) (y+1) r
def A6f(i:Nat)(p:Option Int):Prop:=∀e,p=some e→e<i
end Go.Proofs.YtplgghjdidmcfaaGreatDoor
