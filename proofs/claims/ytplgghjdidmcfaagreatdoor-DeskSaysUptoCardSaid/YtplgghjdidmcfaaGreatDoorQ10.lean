/- Written anew, smaller, by a program of our own out of our texts. No condition of our own. -/
import Derived.Test.YtplgghjdidmcfaaGreatDoorQ08
import Derived.Test.YtplgghjdidmcfaaGreatDoorQ09
import Derived.Lib.SmallJoins
import Derived.Lib.ItoaLen
import Derived.Test.YtplgghjdidmcfaaGreatDoorQ01
import Derived.Lib.FieldsP
import Derived.Lib.Split
import Derived.Lib.IndexBytes
import Derived.Test.YtplgghjdidmcfaaGreatDoorQ02
import Derived.Test.YtplgghjdidmcfaaGreatDoorQ07
import Derived.Test.YtplgghjdidmcfaaGreatDoorQ03
import Derived.Test.YtplgghjdidmcfaaGreatDoorQ05
set_option maxRecDepth 100000
set_option maxHeartbeats 16000000
set_option linter.all false
namespace Go.Proofs.YtplgghjdidmcfaaGreatDoor
open Go.RowKit
theorem C1f{P:Prop}(h:P:=by
 have HD:Hid (craD d sf keep=d∧craF d sf keep=sf):=by unfold Hid craD craF;rw[HE.out,if_neg EF,if_neg EF];exact⟨rfl,rfl⟩
 go_enter Tryz.func60,Tryz.ntmps60
 go_wp2_with fail
 go_quiet (fail)
 go_wp2_with fail
 go_ret
 exact⟨A0S HE.out.symm,by rw[HD.out.1,HD.out.2];exact Blk.drewN HH.out _,A2M Ds _⟩
 ):P:=h
theorem B9L{P:Prop}(h:P:=by
 rintro e w1 ⟨rfl,hb1⟩
 go_wp2_with fail
 go_ret2
 exact⟨rfl,hb1⟩
 ):P:=h
def wrE(x:Ed):List UInt8:=Lib.itoa x.at_++([32]++(Lib.itoa x.del++([32]++(Lib.itoa (x.ins.length:Int)++([58]++(x.ins++ [59]))))))
def wrL(l:List Ed):List UInt8:=l.flatMap wrE
theorem B1C{l:List Ed}{k:Nat}(hk:k<l.length):wrL (l.take (k+1))=wrL (l.take k)++wrE l[k]:=by
 unfold wrL
 rw[Cf,AL hk,CX];simp
def TabI(w:World):Prop:=Lib.TabIs Tryz.prog w "internal/strconv.uint64pow10" .u64 Lib.pow10Tab
theorem A1Z(n:Int)(h0: -9223372036854775808≤n)(h1:n≤9223372036854775807){w W:World}(ht:TabI w)(hb:Below w.heap.size w W):
 Calls Tryz.prog 93 #[.int .i64 n] W fun e w'=>e= .returned (.string (S (Lib.itoa n)))∧Below W.heap.size W w':=by
 refine(Tryz.strconv_Itoa n h0 h1 W (Go.Joins.tab_stays (g:=Tryz.prog.globalNamed "internal/strconv.uint64pow10" |>.getD 0) EG ht hb (AD _))).mono ?_
 rintro e w' ⟨rfl,k,os,rfl⟩
 exact⟨rfl,Dk W _ os⟩
theorem A4B{x:Ed}(h:A0A x=0):0≤x.at_∧x.at_≤200∧0≤x.del∧x.del≤200∧x.ins.length≤40:=by
 unfold A0A at h
 split at h
 ·cases h
 ·split at h
  ·cases h
  ·omega
theorem wr_cat(a n1 n2 n3 xi:List UInt8):S a++(S n1++⟨#[32]⟩++S n2++⟨#[32]⟩++S n3++⟨#[58]⟩++S xi++⟨#[59]⟩)=S (a++(n1++([32]++(n2++([32]++(n3++([58]++(xi++ [59])))))))):=by
 have e1:(⟨#[32]⟩:ByteArray)=S [32]:=rfl
 have e2:(⟨#[58]⟩:ByteArray)=S [58]:=rfl
 have e3:(⟨#[59]⟩:ByteArray)=S [59]:=rfl
 rw[e1,e2,e3]
 simp only[A1i,L_S,AN]
theorem B5F(l:List Ed)(A:Option Addr)(m c B:Nat)(w:World)(hr:Rd w B 3 A m (A0f l))(hB:B≤w.heap.size)(hm:m≤9223372036854775807)(ht:TabI w):
 Calls Tryz.prog 117 #[.slice A m c] w fun e w'=>e= .returned (.tuple #[.string (if A1d l=0 then S (wrL l) else⟨#[]⟩),.int .i64 (A1d l)])∧Below w.heap.size w w':=by
 have HCK:=AA (fun W (hb:Below w.heap.size w W)=>B1y l A m c B W (hr.below (hb.mono hB)) (AQ hB hb.size) hm)
 have hlen:=Rd.rec_len A2v EE hr
 have HR:=AA hr;clear hr
 have HL:=AA hlen;clear hlen
 by_cases hz:A1d l=0
 ·have hall:=(A1c.1 hz).2
  have HALL:Hid (∀k (h:k<l.length),A0A l[k]=0):=fun k h=>hall _ (Ac h)
  rw[if_pos hz,hz]
  rw[hz] at HCK
  have hm20:m≤20:=by have:=(A1c.1 hz).1;have:=HL.out;omega
  clear hall hz
  go_enter Tryz.func117,Tryz.ntmps117
  go_wp2_with fail
  refine(HCK.out _ Ds).mono ?_
  rintro e w1 ⟨rfl,hb1⟩
  go_wp2_with fail
  go_loopw [5,15] (fun ov iv wr=>∃(k:Nat) (O:ByteArray),k≤m∧iv= .int .i64 k∧ov= .string O∧O.size≤120*k∧Hid (O=S (wrL (l.take k)))∧Below w.heap.size w wr)
   (fun _ i _=>m-(intOf i).toNat)
  case atStart=>exact⟨0,⟨#[]⟩,AS _,rfl,rfl,AD _,AA rfl,hb1⟩
  case round=>
   obtain⟨k,O,hk,rfl,rfl,hOs,HO,hb⟩:=hrel
   have hbs:=hb.size
   by_cases hlt:k<m
   ·obtain⟨ad,hl,rfl,hab,c0,c1,c2⟩:=(HR.out.below (hb.mono hB)).at_ed hlt
    obtain⟨hx0,hx1,hx2,hx3,hx4⟩:=A4B (HALL.out k hl)
    have HSN:=AA (B1C hl)
    have hzz:(S l[k].ins).size=l[k].ins.length:=A0b _
    have HZ:=AA hzz;clear hzz
    generalize l[k]=x at*
    obtain⟨xa,xd,xi⟩:=x
    simp only at c0 c1 c2 HZ hx0 hx1 hx2 hx3 hx4
    have HI0:=AA (fun W (hW:Below w.heap.size w W)=>A1Z xa EE EE ht hW)
    have HI1:=AA (fun W (hW:Below w.heap.size w W)=>A1Z xd EE EE ht hW)
    have HI2:=AA (fun W (hW:Below w.heap.size w W)=>A1Z ((S xi).size:Int) (by rw[HZ.out];omega) (by rw[HZ.out];omega) ht hW)
    have HEX:Hid (O++(S (Lib.itoa xa)++⟨#[32]⟩++S (Lib.itoa xd)++⟨#[32]⟩++S (Lib.itoa ((S xi).size:Int))++⟨#[58]⟩++S xi++⟨#[59]⟩)=S (wrL (l.take (k+1)))):=by
     unfold Hid
     rw[HO.out,wr_cat,HSN.out,HZ.out];rfl
    have z0:(S (Lib.itoa xa)).size≤21:=by rw[A0b];exact Lib.itoa_length_le _ EE EE
    have z1:(S (Lib.itoa xd)).size≤21:=by rw[A0b];exact Lib.itoa_length_le _ EE EE
    have z2:(S (Lib.itoa ((S xi).size:Int))).size≤21:=by rw[A0b];exact Lib.itoa_length_le _ (by rw[HZ.out];omega) (by rw[HZ.out];omega)
    have z3:(S xi).size≤40:=by rw[HZ.out];omega
    clear HO HSN HZ hx0 hx1 hx2 hx3 hx4
    generalize S (Lib.itoa ((S xi).size:Int))=Y2 at*
    generalize S (Lib.itoa xa)=Y0 at*
    generalize S (Lib.itoa xd)=Y1 at*
    generalize S xi=X at*
    have g1:decide ((k:Int)<(m:Int))=true:=AG EE
    have g1':decide (k<m)=true:=AG hlt
    go_wp2_with fail
    have hbA:Below wr.heap.size wr (wr.alloc (.cells #[.int .i64 xa,.int .i64 xd,.string X] 95)):=(AI _ _).alloc (AD _) _
    have c0':(wr.alloc (.cells #[.int .i64 xa,.int .i64 xd,.string X] 95)).cell? ⟨wr.heap.size,0,none⟩=some (.int .i64 xa):=by simp
    have c1':(wr.alloc (.cells #[.int .i64 xa,.int .i64 xd,.string X] 95)).cell? ⟨wr.heap.size,1,none⟩=some (.int .i64 xd):=by simp
    have c3':(wr.alloc (.cells #[.int .i64 xa,.int .i64 xd,.string X] 95)).cell? ⟨wr.heap.size,2,none⟩=some (.string X):=by simp
    have hB12:=A0h hb hbA
    have hsB:=hB12.size
    generalize(wr.alloc (.cells #[.int .i64 xa,.int .i64 xd,.string X] 95))=wa at*
    have c0r:=BW c0';have c1r:=BW c1';have c3r:=BW c3'
    refine wp_region_quiet_below EG EG ?_
    repeat(go_big_quiet_step ((first
     |(go_at_call_of 93 (Value.int .i64 xa);exact BS (HI0.out _ (hB12.trans ((Dk _ _ _).mono hsB))))
     |(go_at_call_of 93 (Value.int .i64 xd);exact BS (HI1.out _ (hB12.trans ((Dk _ _ _).mono hsB))))
     |(go_at_call_of 93 (Value.int .i64 (X.size:Int));exact BS (HI2.out _ (hB12.trans ((Dk _ _ _).mono hsB)))))))
    refine wpQuiet_nil ?_
    intro w5 hb50
    have hb5:=A0B hb50
    clear hb50
    go_wp2_with fail
    go_roundw
    case rel=>exact⟨k+1,_,by omega,by go_num,rfl,by simp only[Bn];have e1:(⟨#[32]⟩:ByteArray).size=1:=rfl;have e2:(⟨#[58]⟩:ByteArray).size=1:=rfl;have e3:(⟨#[59]⟩:ByteArray).size=1:=rfl;omega,HEX,A0h hB12 hb5⟩
    case measure=>simp[intOf];omega
   ·have hkm:k=m:=EE
    subst hkm
    have g1:decide ((k:Int)<(k:Int))=false:=AC EE
    have g1':decide (k<k)=false:=AC hlt
    have HF:Hid (O=S (wrL l)):=by
     have:=HO.out
     rw[AX (by rw[HL.out];exact AD _)] at this
     exact this
    clear HO
    go_wp2_with fail
    go_ret2
    rw[HF.out]
    exact⟨rfl,hb⟩
 ·rw[if_neg hz]
  have g1:(A1d l !=(0:Int))=true:=by rw[Be];exact hz
  clear hz
  generalize A1d l=z at*
  go_enter Tryz.func117,Tryz.ntmps117
  go_wp2_with fail
  refine(HCK.out _ Ds).mono ?_
  exact B9L
end Go.Proofs.YtplgghjdidmcfaaGreatDoor
namespace Go.Proofs.YtplgghjdidmcfaaGreatDoor
def A3c:List UInt8→List UInt8→List (List UInt8)
 |cur,[]=>if cur=[] then [] else [cur]
 |cur,b::l=>if b=32 then(if cur=[] then A3c [] l else cur::A3c [] l) else A3c (cur++ [b]) l
def wds(l:List UInt8):List (List UInt8):=A3c [] l
theorem A4j:∀(a cur l:List UInt8),(∀b∈a,b≠32)→A3c cur (a++l)=A3c (cur++a) l
 |[],cur,l,_=>by simp
 |b::a,cur,l,h=>by
  have hb:b≠32:=h b EH
  rw[Aj,A3c,if_neg hb,A4j a _ l (fun x hx=>h x (by simp[hx]))]
  simp
theorem A7Q(cur l:List UInt8):A3c cur (32::l)=(if cur=[] then [] else [cur])++A3c [] l:=by
 rw[A3c,if_pos rfl]
 split<;>simp
theorem B0c:∀(k:Nat) (s:List UInt8),s.count 32≤k→(Lib.splitK [32] 0 k s).filter (fun x=>decide (x≠ []))=wds s
 |0,s,h=>by
  have hn:∀b∈s,b≠32:=fun b hb e=>by
   subst e
   have:=List.count_pos_iff.2 hb
   omega
  have e:=A4j s [] [] hn
  rw[Aq,Am] at e
  unfold wds
  rw[e,Lib.splitK,A3c]
  by_cases h0:s=[]<;>simp[h0]
 |k+1,s,h=>by
  rw[Lib.splitK,Lib.index_one]
  by_cases hi:Lib.indexByte s 32= -1
  ·rw[hi,if_pos (show((-1:Int)== -1)=true from rfl)]
   have hn:∀b∈s,b≠32:=fun b hb e=>by
    subst e
    obtain⟨j,hj⟩:=List.getElem?_of_mem hb
    exact Lib.indexByte_none hi j hj
   have e:=A4j s [] [] hn
   rw[Aq,Am] at e
   unfold wds
   rw[e,A3c]
   by_cases h0:s=[]<;>simp[h0]
  ·have hg:=Lib.indexByte_ge s 32
   obtain⟨i,hi'⟩:∃i:Nat,Lib.indexByte s 32=(i:Int):=⟨(Lib.indexByte s 32).toNat,by omega⟩
   obtain⟨h1,h2⟩:=Lib.indexByte_some hi'
   have hb:((i:Int)== -1)=false:=AH.2 EE
   rw[hi',hb]
   have hil:i<s.length:=(Av.1 h1).1
   have es:s=s.take i++32::s.drop (i+1):=by
    conv=>lhs;rw[←BC i s]
    rw[Ag hil]
    have:=(Av.1 h1).2
    rw[this]
   have hn:∀b∈s.take i,b≠32:=fun b hb e=>by
    subst e
    obtain⟨j,hj⟩:=List.getElem?_of_mem hb
    rw[Bq] at hj
    split at hj
    ·exact h2 j (by assumption) hj
    ·cases hj
   have hc:(s.drop (i+1)).count 32≤k:=by
    rw[es,List.count_append,List.count_cons] at h
    simp at h
    omega
   have ih:=B0c k (s.drop (i+1)) hc
   have e:=A4j (s.take i) [] (32::s.drop (i+1)) hn
   rw[←es,Am,A7Q] at e
   unfold wds at ih⊢
   rw[e,←ih]
   simp only[CQ,CD,Int.toNat_natCast,CN,AM,BK,An,List.filter_cons]
   by_cases h0:s.take i=[]
   ·simp[h0]
   ·simp[h0]
theorem B0I(n b0 b1 b2 b3:Nat):((Lib.decodeN n b0 b1 b2 b3).1=32→b0=32∧(Lib.decodeN n b0 b1 b2 b3).2=1)∧(b0=32→Lib.decodeN n b0 b1 b2 b3=(32,1))∧
 (1<(Lib.decodeN n b0 b1 b2 b3).2→b1≠32)∧(2<(Lib.decodeN n b0 b1 b2 b3).2→b2≠32)∧(3<(Lib.decodeN n b0 b1 b2 b3).2→b3≠32)∧(Lib.decodeN n b0 b1 b2 b3).2≤4:=by
 unfold Lib.decodeN
 refine⟨?_, ?_, ?_, ?_, ?_, ?_⟩
 all_goals(repeat' split)
 all_goals simp
 all_goals omega
theorem B1D(s:ByteArray)(pos:Nat)(h:pos<s.size):
 if(Utf8.decode s pos).1=32 then(Utf8.decode s pos).2=1∧s.data.toList[pos]? =some 32
 else∀b∈(s.data.toList.drop pos).take (Utf8.decode s pos).2,b≠32:=by
 have hsz:s.data.toList.length=s.size:=by rw[CL];rfl
 have hat:∀j,pos+j<s.size→s.data.toList[pos+j]? =some (s.get! (pos+j)):=fun j hj=>by
  have:pos+j<s.data.size:=hj
  rw[Array.getElem?_toList,DM this]
  congr 1
  show _=s.data[pos+j]!
  rw[getElem!_pos s.data (pos+j) this]
 have hd:=Lib.decode_at s pos
 obtain⟨h1,h2,h3,h4,h5,h6⟩:=B0I (s.size-pos) (s.get! pos).toNat (s.get! (pos+1)).toNat (s.get! (pos+2)).toNat (s.get! (pos+3)).toNat
 rw[←hd] at h1 h2 h3 h4 h5 h6
 have key:∀b:UInt8,b.toNat=32↔b=32:=fun b=>⟨fun e=>UInt8.toNat.inj (by simpa using e),fun e=>by rw[e];rfl⟩
 split
 ·rename_i he
  obtain⟨e0,e1⟩:=h1 he
  refine⟨e1, ?_⟩
  rw[show pos=pos+0 from rfl,hat 0 h,CN,(key _).1 e0]
 ·rename_i he
  intro b hb e
  subst e
  obtain⟨j,hj⟩:=List.getElem?_of_mem hb
  rw[Bq,BU] at hj
  split at hj
  ·rename_i hjl
   have hlt:pos+j<s.size:=by rw[←hsz];exact(Av.1 hj).1
   rw[hat j hlt] at hj
   have hj:=Aw hj
   have hj4:j<4:=EE
   match j,hj4 with
   |0,_=>exact he (by rw[h2 ((key _).2 hj)])
   |1,_=>exact h3 hjl ((key _).2 hj)
   |2,_=>exact h4 hjl ((key _).2 hj)
   |3,_=>exact h5 hjl ((key _).2 hj)
  ·cases hj
theorem B5G(s:ByteArray)(pos:Nat)(h:pos<s.size):pos+(Utf8.decode s pos).2≤s.size:=by
 have:=Lib.decodeN_le_n' (s.size-pos) (s.get! pos).toNat (s.get! (pos+1)).toNat (s.get! (pos+2)).toNat (s.get! (pos+3)).toNat EE
 rw[←Lib.decode_at] at this
 omega
theorem B5H(s:ByteArray):∀(f pos:Nat) (st:Option Nat) (acc:List (Nat×Nat)),s.size≤pos+f→pos≤s.size→(∀a,st=some a→a<pos)→
 (Lib.closeSpans s (Lib.spansFromP (fun r=>r==32) s f pos st acc)).map (fun p=>Lib.pieceU s.data.toList p.1 p.2)=
  acc.map (fun p=>Lib.pieceU s.data.toList p.1 p.2)++A3c (Lib.openPiece s.data.toList st pos) (s.data.toList.drop pos):=by
 have hsz:s.data.toList.length=s.size:=by rw[CL];rfl
 have hend:∀(f:Nat) (st:Option Nat) (acc:List (Nat×Nat)),(∀a,st=some a→a<s.size)→(Lib.closeSpans s (Lib.spansFromP (fun r=>r==32) s f s.size st acc)).map (fun p=>Lib.pieceU s.data.toList p.1 p.2)=
  acc.map (fun p=>Lib.pieceU s.data.toList p.1 p.2)++A3c (Lib.openPiece s.data.toList st s.size) (s.data.toList.drop s.size):=fun f st acc hst=>by
  have hd:s.data.toList.drop s.size=[]:=Dh (by rw[hsz];exact AD _)
  rw[hd,Lib.spansFromP_end _ s _ _ _ _ (Nat.lt_irrefl _),A3c]
  cases st with
  |none=>simp[Lib.closeSpans,Lib.openPiece]
  |some a=>
   have:=Lib.pieceU_ne s.data.toList a s.size (hst a rfl) (by rw[hsz];exact AD _)
   simp[Lib.closeSpans,Lib.openPiece,this]
 intro f
 induction f with
 |zero=>
  intro pos st acc h hp hst
  obtain rfl:pos=s.size:=EE
  exact hend 0 st acc hst
 |succ f ih=>
  intro pos st acc h hp hst
  by_cases hlt:pos<s.size
  ·have hw:=Lib.width_pos s pos
   have hin:=B5G s pos hlt
   have hb:=B1D s pos hlt
   have hsplit:s.data.toList.drop pos=(s.data.toList.drop pos).take (Utf8.decode s pos).2++s.data.toList.drop (pos+(Utf8.decode s pos).2):=by
    rw[←List.drop_drop,BC]
   simp only[Lib.spansFromP,if_pos hlt]
   by_cases h32:(Utf8.decode s pos).1=32
   ·rw[if_pos h32] at hb
    obtain⟨e1,e2⟩:=hb
    have hdr:s.data.toList.drop pos=32::s.data.toList.drop (pos+1):=by
     have hl:pos<s.data.toList.length:=by rw[hsz];exact hlt
     rw[Ag hl,(Av.1 e2).2]
    rw[h32,e1,hdr,A7Q]
    simp only[BEq.rfl,DJ]
    cases st with
    |none=>
     have:=ih (pos+1) none acc EE EE (fun a h=>by cases h)
     simpa[Lib.openPiece] using this
    |some a=>
     have hpn:=Lib.pieceU_ne s.data.toList a pos (hst a rfl) (by rw[hsz];omega)
     have:=ih (pos+1) none (acc++ [(a,pos)]) EE EE (fun a h=>by cases h)
     simpa[Lib.openPiece,hpn] using this
   ·rw[if_neg h32] at hb
    have hbf:((Utf8.decode s pos).1==32)=false:=AH.2 h32
    simp only[hbf,CQ,CD]
    rw[hsplit,A4j _ _ _ hb]
    cases st with
    |none=>
     have:=ih (pos+(Utf8.decode s pos).2) (some pos) acc EE hin (fun a h=>by cases h;omega)
     have e:([]:List UInt8)++(s.data.toList.drop pos).take (Utf8.decode s pos).2=Lib.pieceU s.data.toList pos (pos+(Utf8.decode s pos).2):=by
      unfold Lib.pieceU
      rw[Am,Bw]
     simp only[Lib.openPiece] at this⊢
     rw[e];exact this
    |some a=>
     have:=ih (pos+(Utf8.decode s pos).2) (some a) acc EE hin (fun b h=>by cases h;have:=hst a rfl;omega)
     simp only[Lib.openPiece] at this⊢
     rw[Lib.pieceU_grow _ _ _ _ (Nat.le_of_lt (hst a rfl))];exact this
  ·obtain rfl:pos=s.size:=EE
   exact hend _ st acc hst
theorem A8y(s:ByteArray):(Lib.goFieldsP (fun r=>r==32) s).map (·.data.toList)=wds s.data.toList:=by
 have h:=B5H s s.size 0 none [] EE (AS _) (fun a h=>by cases h)
 simp only[List.map_nil,Am,Lib.openPiece,Az] at h
 unfold wds Lib.goFieldsP Lib.spansOfP
 rw[←h,CE]
 congr 1
 funext p
 simp[Lib.pieceU]
def A1T(rs:List (List UInt8)):List UInt8:=rs.flatMap A0T
theorem A4k(r:List UInt8)(rs:List (List UInt8)):A1T (r::rs)=A0T r++A1T rs:=rfl
theorem A8z(r:List UInt8)(rs:List (List UInt8)):A1T (rs++ [r])=A1T rs++A0T r:=by unfold A1T;rw[CX];simp
theorem A3y(r x:List UInt8)(hr:r.length≤1100):A0q (A0T r++x)=r.length:=by
 unfold A0q A0T
 simp only[Aj,Ae,BF]
 rw[Bt,Bt]
 omega
theorem B5I{l:List UInt8}{n:Nat}(hn:2≤n):A0q (l.take n)=A0q l:=by
 unfold A0q
 rw[AK,AK,AK,AK,Ba EE,Ba EE]
theorem B1E(r x:List UInt8)(hr:r.length≤1100):A1P (A0T r++x):=by
 have hh:=A3y r x hr
 have hl:=A2m r
 refine⟨by rw[AJ];omega,by omega,by rw[AJ];omega, ?_⟩
 rw[hh]
 have e1:A0T r=(UInt8.ofNat (r.length/256)::UInt8.ofNat r.length::r)++A4e (UInt8.ofNat (r.length/256)::UInt8.ofNat r.length::r):=rfl
 rw[e1,AN]
 generalize hA:(UInt8.ofNat (r.length/256)::UInt8.ofNat r.length::r)=A
 have hAl:A.length=r.length+2:=by rw[←hA];simp
 have h4:(A4e A).length=4:=by unfold A4e A7v;simp
 rw[←hAl,Bz,DY,←h4,Bz]
theorem B0d(r x:List UInt8)(hr:r.length≤1100):A3t (A0T r++x)=r:=by
 unfold A3t
 rw[A3y r x hr]
 unfold A0T
 simp
theorem A8A(r x:List UInt8)(hr:r.length≤1100):(A0T r++x).drop (A0q (A0T r++x)+6)=x:=by
 rw[A3y r x hr,←A2m r,DY]
theorem B0e:∀(rs:List (List UInt8)),(∀r∈rs,r.length≤1100)→∀n:Nat,∃j,j≤rs.length∧A0P ((A1T rs).take n)=(rs.take j,(A1T (rs.take j)).length)∧(A1T (rs.take j)).length≤n∧(A1T rs).take (A1T (rs.take j)).length=A1T (rs.take j)
 |[],_,n=>⟨0,AD _,by
  have:((A1T []).take n)=[]:=by simp[A1T]
  rw[this]
  exact A1W (fun h=>by have:=h.1;simp at this),AS _,rfl⟩
 |r::rs,h,n=>by
  have hr:=h r Bu
  have hl:=A2m r
  rw[A4k]
  by_cases hn:n<r.length+6
  ·refine⟨0,AS _, ?_,AS _,rfl⟩
   refine A1W (fun hk=> ?_)
   obtain⟨h6,_,h3,_⟩:=hk
   rw[AV] at h6 h3
   rw[B5I EE,A3y r _ hr] at h3
   omega
  ·have e:((A0T r++A1T rs).take n)=A0T r++(A1T rs).take (n-(r.length+6)):=by
    rw[Co,AX EE,hl]
   obtain⟨j,hj,hs,hjn,ht⟩:=B0e rs (fun q hq=>h q (By _ hq)) (n-(r.length+6))
   refine⟨j+1,by simp only[AM];omega, ?_, ?_, ?_⟩
   ·rw[e,A4s (B1E r _ hr),B0d r _ hr,A8A r _ hr,A3y r _ hr,hs,CM,A4k,AJ,hl]
    congr 1
    simp only
    omega
   ·rw[CM,A4k,AJ,hl];omega
   ·rw[CM,A4k,AJ,Co,AX EE]
    congr 1
    rw[Bw]
    exact ht
theorem A8a(rs:List (List UInt8))(h:∀r∈rs,r.length≤1100):A0P (A1T rs)=(rs,(A1T rs).length):=by
 induction rs with
 |nil=>exact A1W (fun h=>by have:=h.1;simp[A1T] at this)
 |cons r rs ih=>
  have hr:=h r Bu
  rw[A4k,A4s (B1E r _ hr),B0d r _ hr,A8A r _ hr,A3y r _ hr,ih (fun q hq=>h q (By _ hq)),AJ,A2m]
  congr 1
  simp only
  omega
def B1f(t:List UInt8):List Ed:=(A2G t).getD []
def A2O(s r:List UInt8):List UInt8:=if r.headD 0=98 then r.tail else A0C s (B1f r.tail)
def play(s:List UInt8)(rs:List (List UInt8)):List UInt8:=rs.foldl A2O s
def good:List UInt8→List (List UInt8)→Prop
 |_,[]=>True
 |s,r::rs=>r.length≤1100∧((∃t,r=98::t∧t.length≤200)∨∃l,r=101::wrL l∧A0n s.length l=0)∧good (A2O s r) rs
theorem B1F:∀n:Fin 201,A0X (Lib.itoa (n.val:Int))=some n.val∧(Lib.itoa (n.val:Int)).all (fun b=>b !=32&&b !=58)=true:=by decide+kernel
theorem B2W{n:Nat}(h:n≤200):A0X (Lib.itoa (n:Int))=some n:=(B1F ⟨n,by omega⟩).1
theorem B3x{n:Nat}(h:n≤200):∀b∈Lib.itoa (n:Int),b≠32∧b≠58:=by
 have:=CP.1 (B1F ⟨n,by omega⟩).2
 intro b hb
 have:=this b hb
 simpa using this
theorem A5S{n:Nat}(h:n≤200){c:UInt8}(hc:c=32∨c=58)(r:List UInt8):A1k (Lib.itoa (n:Int)++c::r) c=some (n,r):=by
 unfold A1k
 have hno:∀b∈Lib.itoa (n:Int),b≠c:=fun b hb=>by
  rcases hc with rfl|rfl
  ·exact(B3x h b hb).1
  ·exact(B3x h b hb).2
 rw[B1w hno]
 simp only[B2W h,CC]
theorem B7O{x:Ed}(h:A0A x=0)(r:List UInt8):A1G (wrE x++r)=some (x,r):=by
 obtain⟨h0,h1,h2,h3,h4⟩:=A4B h
 obtain⟨xa,xd,xi⟩:=x
 simp only at h0 h1 h2 h3 h4
 obtain⟨a,rfl⟩:=BV h0
 obtain⟨d,rfl⟩:=BV h2
 have e:wrE ⟨(a:Int),(d:Int),xi⟩++r=Lib.itoa (a:Int)++32::(Lib.itoa (d:Int)++32::(Lib.itoa (xi.length:Int)++58::(xi++59::r))):=by
  unfold wrE;simp[AN]
 rw[e]
 unfold A1G
 rw[A5S EE (.inl rfl)]
 simp only
 rw[A5S EE (.inl rfl)]
 simp only
 rw[A5S EE (.inr rfl)]
 simp only
 unfold A2F
 rw[if_pos ⟨by rw[AJ,AM];omega,by rw[AK,BH (AD _)];simp⟩]
 simp
theorem wrE_ne(x:Ed)(r:List UInt8):wrE x++r≠ []:=by
 unfold wrE;intro h
 have:=congrArg List.length h
 simp at this
theorem A9y{l:List Ed}(h:∀x∈l,A0A x=0):A2G (wrL l)=some l:=by
 induction l with
 |nil=>rfl
 |cons x l ih=>
  have e:wrL (x::l)=wrE x++wrL l:=rfl
  rw[e,A4i (wrE_ne x _),B7O (h x Bu)]
  simp only
  rw[ih (fun y hy=>h y (By _ hy))]
  rfl
theorem A3n{n:Int}{l:List Ed}(h:A0n n l=0):A1d l=0:=by
 obtain⟨h0,h1,h2,hc,_⟩:=A2o.1 h
 refine A1c.2 ⟨h2,fun x hx=> ?_⟩
 obtain⟨a,b,c,d,_⟩:=hc.mem x hx
 unfold A0A
 rw[if_neg EE,if_neg EE]
theorem B7P{n:Int}{l:List Ed}(h:A0n n l=0):B1f (wrL l)=l:=by
 unfold B1f
 rw[A9y (A1c.1 (A3n h)).2];rfl
theorem B1G(s t:List UInt8):A2O s (98::t)=t:=by unfold A2O;simp
theorem B1H{s:List UInt8}{n:Int}{l:List Ed}(h:A0n n l=0):A2O s (101::wrL l)=A0C s l:=by
 have e:A2O s (101::wrL l)=A0C s (B1f (wrL l)):=if_neg EH
 rw[e,B7P h]
theorem A5q:∀{rs:List (List UInt8)} {s:List UInt8},good s rs→∀r∈rs,r.length≤1100
 |[],_,_,r,hr=>by cases hr
 |q::rs,s,h,r,hr=>by
  rcases Br.1 hr with rfl|hr
  ·exact h.1
  ·exact A5q h.2.2 r hr
theorem A6V:∀{rs:List (List UInt8)} {s:List UInt8},good s rs→∀j,good s (rs.take j)
 |[],_,_,j=>by simp[good]
 |_::_,_,_,0=>trivial
 |_::_,_,h,j+1=>⟨h.1,h.2.1,A6V h.2.2 j⟩
theorem A6W:∀{rs:List (List UInt8)} {s:List UInt8} {r:List UInt8},good s rs→good (play s rs) [r]→good s (rs++ [r])
 |[],_,_,_,h=>h
 |_::_,_,_,h,k=>⟨h.1,h.2.1,A6W h.2.2 k⟩
theorem A6X(s:List UInt8)(rs:List (List UInt8))(r:List UInt8):play s (rs++ [r])=A2O (play s rs) r:=by unfold play;rw[Dc];rfl
theorem B2X{s:List UInt8}{l:List Ed}(h:A0n s.length l=0):(A0C s l).length≤200:=by
 obtain⟨_,_,_,hc,hf⟩:=A2o.1 h
 have hl:=A4z rfl hc (k:=0) rfl (AS _)
 rw[A5B h]
 omega
theorem A6Y:∀{rs:List (List UInt8)} {s:List UInt8},good s rs→s.length≤200→(play s rs).length≤200
 |[],_,_,h=>h
 |q::rs,s,h,_=>by
  refine A6Y (rs:=rs) (s:=A2O s q) h.2.2 ?_
  rcases h.2.1 with⟨t,rfl,ht⟩|⟨l,rfl,hl⟩
  ·rw[B1G];exact ht
  ·rw[B1H hl];exact B2X hl
end Go.Proofs.YtplgghjdidmcfaaGreatDoor
namespace Go.Proofs.YtplgghjdidmcfaaGreatDoor
open Go.RowKit
def A0t(d rec:ByteArray):Int:=if 1100<rec.size then 2 else if 4000<d.size+(rec.size+6) then 11 else 0
def appD(d rec:ByteArray):ByteArray:=if A0t d rec=0 then d++S (A0T (L rec)) else d
theorem B0f(d rec:ByteArray)(h:d.size≤4000):(appD d rec).size≤4000∧d.size≤(appD d rec).size:=by
 unfold appD
 split
 ·rename_i h0
  unfold A0t at h0
  rw[Bn,A0b,A2m,A0e]
  split at h0
  ·cases h0
  ·split at h0
   ·cases h0
   ·omega
 ·omega
def A0D(d:ByteArray)(sf:Nat)(keep:Int):Int:=if keep<0∨(d.size:Int)-sf<keep then 1 else 0
def craS(d:ByteArray)(sf:Nat)(keep:Int):ByteArray:=d.extract 0 (sf+keep.toNat)
def craN(d:ByteArray)(sf:Nat)(keep:Int):Nat:=(A0P (L (craS d sf keep))).2
def craD(d:ByteArray)(sf:Nat)(keep:Int):ByteArray:=if A0D d sf keep=0 then(craS d sf keep).extract 0 (craN d sf keep) else d
def craF(d:ByteArray)(sf:Nat)(keep:Int):Nat:=if A0D d sf keep=0 then craN d sf keep else sf
theorem B7Q(d:ByteArray)(sf:Nat)(keep:Int)(h:d.size≤4000)(hs:sf≤d.size):(craD d sf keep).size≤4000∧craF d sf keep≤(craD d sf keep).size:=by
 unfold craD craF
 split
 ·have h1:=A6p (L (craS d sf keep))
  rw[A0e] at h1
  change craN d sf keep≤_ at h1
  have h2:(craS d sf keep).size≤d.size:=by unfold craS;rw[Ak];omega
  rw[Ak]
  omega
 ·omega
def LogAt(w:World)(g:Nat)(t:TypeId)(d:ByteArray)(sf:Nat):Prop:=Blk w g t #[.string d,.int .i64 (sf:Int)]
theorem LogAt.cells{w:World}{g:Nat}{t:TypeId}{d:ByteArray}{sf:Nat}(h:LogAt w g t d sf):
 w.cell? ⟨g,0,none⟩=some (.string d)∧w.cell? ⟨g,1,none⟩=some (.int .i64 (sf:Int))∧w.frozen? ⟨g,0,none⟩=false∧w.frozen? ⟨g,1,none⟩=false∧g<w.heap.size:=
 ⟨Blk.cell h 0,Blk.cell h 1,Blk.frozen h 0,Blk.frozen h 1,Blk.lt h⟩
theorem A2w(g:Nat)(d rec:ByteArray)(sf:Nat)(w:World)(h:LogAt w g 187 d sf)(hd:d.size≤4000):
 Calls Tryz.prog 115 #[.pointer (some ⟨g,0,none⟩),.string rec] w fun e w'=>e= .returned (.int .i64 (A0t d rec))∧LogAt w' g 187 (appD d rec) sf∧w.grownBy w' (some g):=by
 have HH:=AA h;clear h
 by_cases hr:1100<rec.size
 ·have HE:Hid (A0t d rec=2):=by unfold Hid A0t;rw[if_pos hr]
  have HD:Hid (appD d rec=d):=by unfold Hid appD;rw[HE.out,if_neg EF]
  go_enter Tryz.func115,Tryz.ntmps115
  go_wp2_with fail
  refine(B2P rec hr _).mono ?_
  rintro e w1 ⟨rfl,hb1⟩
  go_wp2_with fail
  go_ret
  exact⟨A0S HE.out.symm,by rw[HD.out];exact HH.out.below' hb1,A2M hb1 _⟩
 ·have hz:(S (A0T (L rec))).size=rec.size+6:=by rw[A0b,A2m,A0e]
  have HZ:=AA hz
  have hz1:(S (A0T (L rec))).size≤1106:=EE
  have HE:Hid (A0t d rec=if 4000<d.size+(S (A0T (L rec))).size then 11 else 0):=by unfold Hid A0t;rw[if_neg hr,hz]
  clear hz
  by_cases hf:4000<d.size+(S (A0T (L rec))).size
  ·rw[Hid,if_pos hf] at HE
   have HE:=AA HE
   have HD:Hid (appD d rec=d):=by unfold Hid appD;rw[HE.out,if_neg EF]
   go_enter Tryz.func115,Tryz.ntmps115
   go_wp2_with fail
   refine(A9T rec EE _).mono ?_
   rintro e w1 ⟨rfl,hb1⟩
   have H1:LogAt w1 g 187 d sf:=HH.out.below' hb1
   have HH1:=AA H1
   obtain⟨c0,c1,f0,f1,hlt⟩:=LogAt.cells H1
   clear H1
   generalize S (A0T (L rec))=F at*
   go_wp2_with fail
   go_ret
   exact⟨A0S HE.out.symm,by rw[HD.out];exact HH1.out,A2M hb1 _⟩
  ·rw[Hid,if_neg hf] at HE
   have HE:=AA HE
   have HD:Hid (appD d rec=d++S (A0T (L rec))):=by unfold Hid appD;rw[HE.out,if_pos rfl]
   go_enter Tryz.func115,Tryz.ntmps115
   go_wp2_with fail
   refine(A9T rec EE _).mono ?_
   rintro e w1 ⟨rfl,hb1⟩
   have H1:LogAt w1 g 187 d sf:=HH.out.below' hb1
   have HH1:=AA H1
   obtain⟨c0,c1,f0,f1,hlt⟩:=LogAt.cells H1
   clear H1
   generalize S (A0T (L rec))=F at*
   go_wp2_with fail
   go_ret
   exact⟨A0S HE.out.symm,by rw[HD.out];exact Blk.set_ HH1.out 0 _,A1F (A2M hb1 _) _ _⟩
theorem A5a(g:Nat)(d:ByteArray)(sf:Nat)(w:World)(h:LogAt w g 187 d sf):
 Calls Tryz.prog 58 #[.pointer (some ⟨g,0,none⟩)] w fun e w'=>e= .returned (.tuple #[])∧LogAt w' g 187 d d.size∧w.grownBy w' (some g):=by
 have HH:=AA h
 obtain⟨c0,c1,f0,f1,hlt⟩:=LogAt.cells h
 clear h
 go_enter Tryz.func58,Tryz.ntmps58
 go_wp2_with fail
 go_end0
 exact⟨rfl,Blk.set_ HH.out 1 _,A1F (A0U _ _) _ _⟩
theorem B5J(g:Nat)(d:ByteArray)(sf:Nat)(w:World)(h:LogAt w g 187 d sf)(hd:d.size≤4000):
 Calls Tryz.prog 119 #[.pointer (some ⟨g,0,none⟩)] w fun e w'=>∃v,e= .returned v∧w'.ownsRow w.heap.size 9 1 v (A0P (L d)).1.length (strCells (A0P (L d)).1)∧Below w.heap.size w w':=by
 obtain⟨c0,c1,f0,f1,hlt⟩:=LogAt.cells h
 clear h
 go_enter Tryz.func119,Tryz.ntmps119
 go_wp2_with fail
 refine(B1r d EE _).mono ?_
 rintro e w1 ⟨v1,rfl,hown1,hb1⟩
 go_wp2_with fail
 go_ret
 exact⟨v1,rfl,hown1,hb1⟩
theorem A4C(g:Nat)(d:ByteArray)(sf:Nat)(keep:Int)(w:World)(h:LogAt w g 187 d sf)(hd:d.size≤4000)(hs:sf≤d.size):
 Calls Tryz.prog 60 #[.pointer (some ⟨g,0,none⟩),.int .i64 keep] w fun e w'=>e= .returned (.int .i64 (A0D d sf keep))∧LogAt w' g 187 (craD d sf keep) (craF d sf keep)∧w.grownBy w' (some g):=by
 have HH:=AA h
 obtain⟨c0,c1,f0,f1,hlt⟩:=LogAt.cells h
 clear h
 by_cases hk0:keep<0
 ·have g0:decide (keep<0)=true:=AG hk0
  have HE:Hid (A0D d sf keep=1):=by unfold Hid A0D;rw[if_pos (.inl hk0)]
  exact C1f
 have g0:decide (keep<0)=false:=AC hk0
 by_cases hk1:(d.size:Int)-(sf:Int)<keep
 ·have g1:decide ((d.size:Int)-(sf:Int)<keep)=true:=AG hk1
  have HE:Hid (A0D d sf keep=1):=by unfold Hid A0D;rw[if_pos (.inr hk1)]
  exact C1f
 have g1:decide ((d.size:Int)-(sf:Int)<keep)=false:=AC hk1
 have HE:Hid (A0D d sf keep=0):=by unfold Hid A0D;rw[if_neg EE]
 have HD:Hid (craD d sf keep=(craS d sf keep).extract 0 (craN d sf keep)∧craF d sf keep=craN d sf keep):=by unfold Hid craD craF;rw[HE.out,if_pos rfl,if_pos rfl];exact⟨rfl,rfl⟩
 obtain⟨k,rfl⟩:=BV (show 0≤keep by omega)
 have HS:Hid (craS d sf (k:Int)=d.extract 0 (sf+k)):=rfl
 have hsz:(d.extract 0 (sf+k)).size≤4000:=by rw[Ak];omega
 go_enter Tryz.func60,Tryz.ntmps60
 go_wp2_with fail
 go_quiet (fail)
 go_wp2_with fail
 go_quiet (fail)
 go_wp2_with fail
 refine(B1r (d.extract 0 (sf+k)) EE _).mono ?_
 rintro e w1 ⟨v1,rfl,hown1,hb1⟩
 have hb1':Below w.heap.size w w1:=A0h (A0d (AI _ _) _) hb1
 have H1:LogAt w1 g 187 d sf:=HH.out.below' hb1'
 have HH1:=AA H1
 clear hown1 c0 c1 f0 f1 hlt
 obtain⟨c0,c1,f0,f1,hlt⟩:=LogAt.cells H1
 clear H1 hb1
 have hle:=A6p (L (d.extract 0 (sf+k)))
 rw[A0e] at hle
 have HN:Hid (craN d sf (k:Int)=(A0P (L (d.extract 0 (sf+k)))).2):=rfl
 generalize(A0P (L (d.extract 0 (sf+k)))).2=n at*
 generalize d.extract 0 (sf+k)=ds at*
 go_wp2_with fail
 go_ret
 exact⟨A0S HE.out.symm,by rw[HD.out.1,HD.out.2,HS.out,HN.out];exact Blk.set_ (Blk.set_ HH1.out 0 _) 1 _,A1F (A1F (A2M hb1' _) _ _) _ _⟩
end Go.Proofs.YtplgghjdidmcfaaGreatDoor
