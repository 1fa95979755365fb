/- Written anew, smaller, by a program of our own out of our texts. No condition of our own. -/
import Derived.Test.YtplgghjdidmcfaaGreatDoorQ37
import Derived.Test.YtplgghjdidmcfaaGreatDoorQ38
import Derived.Test.YtplgghjdidmcfaaGreatDoorQ39
import Derived.Test.YtplgghjdidmcfaaGreatDoorQ40
import Derived.Test.YtplgghjdidmcfaaGreatDoorQ41
import Derived.Test.YtplgghjdidmcfaaGreatDoorQ42
import Derived.Test.YtplgghjdidmcfaaGreatDoorQ43
import Derived.Test.YtplgghjdidmcfaaGreatDoorQ33
import Derived.Test.YtplgghjdidmcfaaGreatDoorQ29
import Derived.Test.YtplgghjdidmcfaaGreatDoorQ03
set_option maxRecDepth 100000
set_option maxHeartbeats 16000000
set_option linter.all false
namespace Go.Proofs.YtplgghjdidmcfaaGreatDoor
open Go.RowKit
theorem C1e{P:Prop}(h:P:=by
 have:=Rd.new_ w (strCells (lns s)).toArray 9 (B:=w.heap.size+1) (size:=1) (n:=n) EE (by simp[strCells,hn])
 simpa using this
 ):P:=h
theorem C1i{P:Prop}(h:P:=by
 go_wp2_with fail
 refine HSP.out.mono ?_
 rintro e w2 ⟨rfl,hw2⟩
 go_wp2_with fail
 go_ret2
 exact⟨rfl,hb2⟩
 ):P:=h
def lns(s:ByteArray):List (List UInt8):=(Lib.splitB ⟨#[10]⟩ 0 (Lib.countB s ⟨#[10]⟩) s).map L
theorem A6l(s:ByteArray):(lns s).length=Lib.countB s ⟨#[10]⟩+1:=by
 unfold lns
 rw[AW]
 exact Lib.splitB_all ⟨#[10]⟩ EF 0 _ s rfl
theorem lns_is(s:ByteArray):lns s=Lib.splitK [10] 0 (Lib.countB s ⟨#[10]⟩) (L s):=Lib.splitB_data ⟨#[10]⟩ 0 _ s
theorem A7s(s:ByteArray):(lns s).length≤s.size+1:=by
 rw[A6l]
 have:=Lib.countB_le ⟨#[10]⟩ EF s.size s (AD _)
 omega
theorem B7k{s:ByteArray}{x:List UInt8}(h:x∈lns s):x.length≤s.size:=by
 rw[lns_is] at h
 have:=A6D [10] _ _ x h
 rwa[A0e] at this
theorem A5N(s:ByteArray):(Lib.splitB ⟨#[10]⟩ 0 (Lib.countB s ⟨#[10]⟩) s).map Value.string=strCells (lns s):=by
 unfold lns strCells
 rw[CE]
 rfl
theorem A4S:∀(P:List Ps) (l:List (List UInt8)),(A1r P l).length≤l.length
 |_,[]=>AD _
 |P,x::r=>by
  unfold A1r
  split
  ·have:=A4S P r;rw[AM];omega
  ·have:=A4S (dkP P (wds x)) r
   rw[AM,AM];omega
theorem A9n{P:List Ps}{l:List (List UInt8)}{k:Nat}(h:k<l.length)(h0:l[k]=[]):A1r P (l.drop k)=A1r P (l.drop (k+1)):=by
 rw[Ag h,A1r,if_pos h0]
theorem A9o{P:List Ps}{l:List (List UInt8)}{k:Nat}(h:k<l.length)(h0:l[k]≠ []):A1r P (l.drop k)=dkT P (wds l[k])::A1r (dkP P (wds l[k])) (l.drop (k+1)):=by
 rw[Ag h,A1r,if_neg h0]
theorem B3X{w w':World}{K:Nat→Prop}{base:Nat}{e:TypeId}{size:Nat}{v:Value}{n:Nat}{xs:List Value}(h:w.ownsRow base e size v n xs)(hc:Chg w w' K)(hK:∀k,v.ownBlock=some k→¬K k):w'.ownsRow base e size v n xs:=by
 obtain⟨h1,h2⟩:=h
 refine⟨h1, ?_⟩
 rcases h2 with h2|⟨g,cap,cur,hv,hg,hh,r⟩
 ·exact .inl h2
 ·have hgl:g<w.heap.size:=(Ay.1 hh).1
  exact .inr ⟨g,cap,cur,hv,hg,(hc.block g hgl (hK g (by rw[hv];rfl))).trans hh,r⟩
theorem DkAt.gb{w w':World}{base gh gd:Nat}{v:Value}{ps:List Pc}(h:DkAt w base gh gd v ps){row:Option Nat}(hg:w.grownBy w' row)(hr:∀b,row=some b→¬HK gh v ps b∧b≠gd):DkAt w' base gh gd v ps:=by
 cases row with
 |none=>exact h.below ⟨hg.os,hg.tape,hg.output,hg.size,fun k hk=>hg.block k hk EH⟩
 |some g=>
  obtain⟨h1,h2⟩:=hr g rfl
  have hc:Chg w w' (fun k=>k=g):=Chg.of_gb hg (fun k hk=>(Aw hk).symm)
  exact⟨h.h.keep hc h1,h.b.chgH hc (fun e=>h2 e.symm),h.n,h.o,AQ h.s hc.size⟩
theorem B3n(s:ByteArray)(mx:Int)(w:World)(hs:s.size≤1048576)(hm:w.cell? ⟨0,0,none⟩=some (.int .i64 mx))(h4:4096<s.size∨60<(lns s).length):
 Calls Tryz.prog 15 #[.string s] w fun e w'=>e= .returned (.tuple #[.slice none 0 0,.int .i64 2])∧Below w.heap.size w w':=by
 have HSP:=AA (Tryz.strings_Split s ⟨#[10]⟩ mx w EE hm EF)
 rw[←A6l,A5N] at HSP
 obtain⟨n,hn⟩:∃n,(lns s).length=n:=⟨_,rfl⟩
 have HN:=AA hn
 rw[hn] at HSP h4
 have hnl:n≤1048577:=by have:=A7s s;omega
 have hb2:Below w.heap.size w (w.alloc (.cells (strCells (lns s)).toArray 9)):=(AI _ _).alloc (AD _) _
 have hrd2:Rd (w.alloc (.cells (strCells (lns s)).toArray 9)) (w.heap.size+1) 1 (some ⟨w.heap.size,0,none⟩) n (strCells (lns s)):=by
  exact C1e
 have hsz2:(w.alloc (.cells (strCells (lns s)).toArray 9)).heap.size=w.heap.size+1:=by simp
 clear hm hn hrd2 hsz2
 by_cases h5:4096<s.size
 ·have g1:decide ((4096:Int)<(s.size:Int))=true:=AG EE
  have g1':decide (4096<s.size)=true:=AG h5
  go_enter Tryz.func15,Tryz.ntmps15
  exact C1i
 ·have g1:decide ((4096:Int)<(s.size:Int))=false:=AC EE
  have g1':decide (4096<s.size)=false:=AC h5
  have g2:decide ((60:Int)<(n:Int))=true:=AG EE
  have g2':decide (60<n)=true:=AG EE
  go_enter Tryz.func15,Tryz.ntmps15
  exact C1i
theorem B3o(s:ByteArray)(mx:Int)(w:World)(hs:s.size≤1048576)(ht:TabI w)(hm:w.cell? ⟨0,0,none⟩=some (.int .i64 mx))(hw0:0<w.heap.size)(h4:¬(4096<s.size∨60<(lns s).length)):
 Calls Tryz.prog 15 #[.string s] w fun e w'=>∃A c,e= .returned (.tuple #[.slice A (A1r [] (lns s)).length c,.int .i64 0])∧Rd w' w'.heap.size 1 A (A1r [] (lns s)).length (strCells (A1r [] (lns s)))∧Below w.heap.size w w':=by
 obtain⟨i0,hi0,hz0,hz1,hz2⟩:=info_parts A2C
 have HSP:=AA (Tryz.strings_Split s ⟨#[10]⟩ mx w EE hm EF)
 rw[←A6l,A5N] at HSP
 obtain⟨n,hn⟩:∃n,(lns s).length=n:=⟨_,rfl⟩
 have HN:=AA hn
 rw[hn] at HSP h4
 have hnl:n≤1048577:=by have:=A7s s;omega
 have hb2:Below w.heap.size w (w.alloc (.cells (strCells (lns s)).toArray 9)):=(AI _ _).alloc (AD _) _
 have hrd2:Rd (w.alloc (.cells (strCells (lns s)).toArray 9)) (w.heap.size+1) 1 (some ⟨w.heap.size,0,none⟩) n (strCells (lns s)):=by
  exact C1e
 have hsz2:(w.alloc (.cells (strCells (lns s)).toArray 9)).heap.size=w.heap.size+1:=by simp
 have HEL:=AA (fun x (h:x∈lns s)=>B7k h)
 have HT:=AA ht
 have HMX:=AA hm
 have HW0:=AA hw0
 have HDL:Hid ((A1r [] (lns s)).length≤n):=by rw[Hid,←hn];exact A4S _ _
 obtain⟨out,hout⟩:∃out,A1r [] (lns s)=out:=⟨_,rfl⟩
 have HOUT:=AA hout
 rw[hout] at HDL⊢
 have hs4:s.size≤4096:=EE
 have hn6:n≤60:=EE
 have g1:decide ((4096:Int)<(s.size:Int))=false:=AC EE
 have g1':decide (4096<s.size)=false:=AC EE
 have g2:decide ((60:Int)<(n:Int))=false:=AC EE
 have g2':decide (60<n)=false:=AC EE
 clear ht hm hw0 hn h4 hout
 go_enter Tryz.func15,Tryz.ntmps15
 go_wp2_with fail
 refine HSP.out.mono ?_
 rintro e w2 ⟨rfl,hw2⟩
 rw[←hw2] at hb2 hrd2 hsz2
 have HB2:=AA hb2
 have HRD2:=AA hrd2
 have HSZ2:=AA hsz2
 clear hw2 HSP hb2 hrd2 hsz2
 go_wp2_with fail
 refine(B4u w2).mono ?_
 rintro e w3 ⟨rfl,hh3,hb3⟩
 go_wp2_with fail
 have hbd:Below w3.heap.size w3 (w3.alloc (.cells #[.pointer (some ⟨w2.heap.size,0,none⟩)] 112)):=(AI _ _).alloc (AD _) _
 have hD:DkAt (w3.alloc (.cells #[.pointer (some ⟨w2.heap.size,0,none⟩)] 112)) w2.heap.size w2.heap.size w3.heap.size (.slice none 0 0) []:=
  ⟨hh3.below hbd,Blk.new_ _ _ _,A2d hh3 (AD _),HsOk.nil_,AQ hb3.size hbd.size⟩
 have hB:Below w2.heap.size w2 (w3.alloc (.cells #[.pointer (some ⟨w2.heap.size,0,none⟩)] 112)):=hb3.trans (hbd.mono hb3.size)
 have HD:=AA hD
 have HB:=AA hB
 clear hh3 hb3 hbd hD hB
 generalize w3.alloc (.cells #[.pointer (some ⟨w2.heap.size,0,none⟩)] 112)=w4 at*
 generalize w3.heap.size=gd at*
 have HRB:=AA (by have:=HRD2.out;rw[←HSZ2.out] at this;exact this:Rd w2 w2.heap.size 1 (some ⟨w.heap.size,0,none⟩) n (strCells (lns s)))
 have HRK:=AA (fun W (hb:Below w2.heap.size w2 W)=>HRB.out.below hb)
 have HTT:Hid (TabI w2):=A0c HT.out HB2.out
 have HMM:Hid (w2.cell? ⟨0,0,none⟩=some (.int .i64 mx)):=(HB2.out.cell (p:=⟨0,0,none⟩) HW0.out).trans HMX.out
 have HWW:Hid (0<w2.heap.size):=AO HW0.out HB2.out.size
 have hgw:w.heap.size<w2.heap.size:=by rw[HSZ2.out];omega
 go_loopw [6,24] (fun ov iv wr=>∃(k:Nat) (q:List (List UInt8)) (v:Value) (ps:List Pc),k≤n∧iv= .int .i64 (k:Int)∧Hid (q++A1r (ps.map Pc.s) ((lns s).drop k)=out)∧q.length≤k∧Hid (DkAt wr w2.heap.size w2.heap.size gd v ps)∧Hid (NmOk (ps.map Pc.s))∧Hid (wr.ownsRow w2.heap.size 9 1 ov q.length (strCells q))∧Hid (∀b,ov.ownBlock=some b→¬HK w2.heap.size v ps b∧b≠gd)∧Below w2.heap.size w2 wr) (fun _ iv _=>n-(intOf iv).toNat)
 case atStart=>exact⟨0,[],.slice none 0 0,[],AS _,rfl,by rw[Hid,Az];exact HOUT.out,AD _,HD.out,NmOk.nil_,Ad _ _ _ _,(fun b h=>by cases h),HB.out⟩
 case round=>
  clear HD HB
  obtain⟨k,q,v,ps,hk,rfl,HQ,hqk,HDK,HNO,HOWN,HAP,hb⟩:=hrel
  have hbs:=hb.size
  by_cases hlt:k<n
  ·have g3:decide ((k:Int)<(n:Int))=true:=AG EE
   have g3':decide (k<n)=true:=AG hlt
   obtain⟨ad,had,hab,hcx⟩:=A2t (HRK.out wr hb) hlt
   obtain rfl:=Aw had
   have hadd:(⟨w.heap.size,0,none⟩:Addr).add k=⟨w.heap.size,k,none⟩:=by unfold Addr.add;split<;>simp_all
   rw[hadd] at hcx
   clear hadd had
   have hkl:k<(lns s).length:=by rw[HN.out];exact hlt
   have HSK:=AA (fun h0=>A9n (P:=ps.map Pc.s) hkl h0)
   have HST:=AA (fun h0=>A9o (P:=ps.map Pc.s) hkl h0)
   have HGD:Hid ((lns s).getD k []=(lns s)[k]'hkl):=by rw[Hid,AK,AL hkl];rfl
   have hxl:=HEL.out ((lns s)[k]'hkl) (Ac hkl)
   rw[HGD.out] at hcx
   obtain⟨x,hx9⟩:∃x,(lns s)[k]'hkl=x:=⟨_,rfl⟩
   rw[hx9] at hcx hxl HSK HST
   clear HGD hx9 hkl
   have HEQ:Hid ((S x).toList=x):=by rw[Hid,Ap];rfl
   by_cases hx0:x=[]
   ·have e1:(S x).toList.isEmpty=true:=by rw[HEQ.out,hx0];rfl
    have e2:((S x).toList==[])=true:=by rw[HEQ.out,hx0];rfl
    have e3:((S x).toList !=[])=false:=by rw[HEQ.out,hx0];rfl
    have HQ2:Hid (q++A1r (ps.map Pc.s) ((lns s).drop (k+1))=out):=by rw[Hid,←HSK.out hx0];exact HQ.out
    clear HEQ HSK HST hx0 HQ
    generalize S x=X at*
    go_wp2_with fail
    go_roundw
    case rel=>exact⟨k+1,q,v,ps,by omega,by go_num,HQ2.out,by omega,HDK,HNO,HOWN,HAP,hb⟩
    case measure=>simp[intOf];omega
   ·have e1:(S x).toList.isEmpty=false:=by rw[HEQ.out];simpa using hx0
    have e2:((S x).toList==[])=false:=by rw[HEQ.out];simpa using hx0
    have e3:((S x).toList !=[])=true:=by rw[HEQ.out];simpa using hx0
    have hxs:(S x).size≤4096:=by rw[A0b];omega
    have HQ2:Hid ((q++ [dkT (ps.map Pc.s) (wds x)])++A1r (dkP (ps.map Pc.s) (wds x)) ((lns s).drop (k+1))=out):=by
     rw[Hid,AN,←HQ.out,HST.out hx0];rfl
    have HAN:=AA (B4Z (S x) mx w2.heap.size gd v ps w2 wr HDK.out hb HNO.out hxs HTT.out HMM.out HWW.out)
    unfold AnsTo at HAN
    rw[L_S] at HAN
    have HNO2:=AA (HNO.out.dk (wds x))
    have HDO:=AA (B6e HDK.out.o (wds x))
    clear HEQ HSK HST hx0 HQ hxl
    obtain⟨X,hX⟩:∃X,S x=X:=⟨_,rfl⟩
    rw[hX] at hcx e1 e2 e3 hxs HAN
    clear hX
    obtain⟨T,hT⟩:∃T,dkT (ps.map Pc.s) (wds x)=T:=⟨_,rfl⟩
    obtain⟨P2,hP2⟩:∃P2,dkP (ps.map Pc.s) (wds x)=P2:=⟨_,rfl⟩
    rw[hT,hP2] at HAN HQ2
    rw[hP2] at HNO2 HDO
    clear hT hP2
    go_wp2_with fail
    refine HAN.out.mono ?_
    rintro e w5 ⟨rfl,hto⟩
    obtain⟨v5,ps5,hd5,hp5,hk5⟩:=HDK.out.to hto HDO.out
    have hrow5:=B3X HOWN.out hto.chg (fun b hb=>(HAP.out b hb).1)
    have hb5:Below w2.heap.size w2 w5:=hb.trans (HDK.out.h.bel hto.chg hbs)
    have HAP5:Hid (∀b,(u6).ownBlock=some b→¬HK w2.heap.size v5 ps5 b∧b≠gd):=fun b hb9=>by
     refine⟨fun hk=> ?_,(HAP.out b hb9).2⟩
     rcases hk5 b hk with h|h
     ·exact(HAP.out b hb9).1 h
     ·have:=(DD HOWN.out b hb9).2
      omega
    have HD5:=AA hd5
    have HP5:=AA hp5
    have HOWN5:=AA hrow5
    clear HAN hto hd5 hp5 hk5 hrow5 HOWN HAP HDK
    go_wp2_with (at_builtin;go_must (refine A3j rfl _ _ _ rfl w2.heap.size 9 i0 _ 1 16 Tryz.underlying25 hi0 hz0 hz1 hz2 rfl EE _ q.length (strCells q) rfl (BE (w:=w5) HOWN5.out _) ⟨w5.heap.size,0,none⟩ 1 1 [.string (S T)] rfl rfl (BL _ _ _) (by simp[Value.oneCell']) EE EE (by have:=(hb5).size;simp at this⊢;omega) ?_);intro v6 w6 hown6 hg6 hb6 hob6;have hb6':=((hb5).alloc (hb5).size _).trans hb6)
    have HDK6:=AA ((HD5.out.below ((AI w5.heap.size w5).alloc (AD _) (.cells #[.string (S T)] 9))).gb hg6 HAP5.out)
    have hsz5:(w5.alloc (.cells #[.string (S T)] 9)).heap.size=w5.heap.size+1:=by simp
    have HAP6:Hid (∀b,v6.ownBlock=some b→¬HK w2.heap.size v5 ps5 b∧b≠gd):=fun b hb9=>by
     rcases hob6 with h|h
     ·exact HAP5.out b (h▸hb9)
     ·rw[h,hsz5] at hb9
      have he:=Aw hb9
      refine⟨fun hk=> ?_,fun e=> ?_⟩
      ·have:=(HD5.out.h.lt hk).2;omega
      ·have:=HD5.out.b.lt;omega
    clear hg6 hb6 hob6 hsz5
    go_roundw
    case rel=>
     refine⟨k+1,q++ [T],v5,ps5,by omega,by go_num, ?_,by simp;omega,HDK6, ?_, ?_,HAP6,hb6'⟩
     ·rw[Hid,HP5.out];exact HQ2.out
     ·rw[Hid,HP5.out];exact HNO2.out
     ·rw[Hid,AJ,Ah,←A3v]
      exact hown6
    case measure=>simp[intOf];omega
  ·obtain rfl:k=n:=EE
   have g3:decide ((k:Int)<(k:Int))=false:=AC EE
   obtain rfl:q=out:=by
    have h:=HQ.out
    rw[←HN.out,DE,A1r,Aq] at h
    exact h
   obtain⟨A,c,rfl,_,_,hrq⟩:=A1e HOWN.out
   clear HQ HOWN HAP HDK HNO
   go_wp2_with fail
   go_ret2
   exact⟨A,c,rfl,hrq,HB2.out.trans (hb.mono HB2.out.size)⟩
theorem len1{α:Type}{r:List α}(h:r.length=1):∃a,r=[a]:=by
 match r,h with
 |[a],_=>exact⟨a,rfl⟩
theorem len2{α:Type}{r:List α}(h:r.length=2):∃a b,r=[a,b]:=by
 match r,h with
 |[a,b],_=>exact⟨a,b,rfl⟩
theorem len3{α:Type}{r:List α}(h:r.length=3):∃a b c,r=[a,b,c]:=by
 match r,h with
 |[a,b,c],_=>exact⟨a,b,c,rfl⟩
theorem len4{α:Type}{r:List α}(h:r.length=4):∃a b c d,r=[a,b,c,d]:=by
 match r,h with
 |[a,b,c,d],_=>exact⟨a,b,c,d,rfl⟩
theorem B1d(s:ByteArray)(A:Option Addr)(c:Nat)(rs:List Rc)(K:Nat→Prop)(w:World)(hf:RaOk w K A c rs s):
 Calls Tryz.prog 49 #[.agg #[.slice A rs.length c],.string s,.func (.func 10) #[] #[]] w (A2h w K rs (wds (L s))):=by
 obtain⟨q,hq⟩:∃q,wds (L s)=q:=⟨_,rfl⟩
 rw[hq]
 match q,hq with
 |[],hq=>exact B8u s A c rs K w hf hq
 |[x0],hq=>
  by_cases h:x0=A0O
  ·subst h;exact B8v s A c rs K w hf hq
  ·exact ra_one s A c rs K w hf x0 h hq
 |x0::x1::r',hq=>
  obtain⟨r,hr⟩:∃r,x1::r'=r:=⟨_,rfl⟩
  have hr0:r≠ []:=by rw[←hr];simp
  rw[hr] at hq⊢
  clear hr
  by_cases hka:askK x0 r.length=0
  ·by_cases hk0:(dkN x0).1=0
   ·exact B5a s A c rs K w hf x0 r hr0 hk0 hka hq
   ·by_cases hc:(dkN x0).2=r.length+1
    ·rcases A6C hk0 with e|e|e|e|e|e|e|e|e|e|e
     ·subst e
      obtain⟨a,t,rfl⟩:∃a t,r=[a,t]:=len2 (by
       have:(dkN kNew).2=3:=by decide
       omega)
      exact ra_New s A c rs K w hf a t hq
     ·subst e
      obtain⟨a,t,u,i,rfl⟩:∃a t u i,r=[a,t,u,i]:=len4 (by
       have:(dkN A0u).2=5:=by decide
       omega)
      exact B9w s A c rs K w hf a t u i hq
     ·subst e
      obtain⟨a,t,u,rfl⟩:∃a t u,r=[a,t,u]:=len3 (by
       have:(dkN kCut).2=4:=by decide
       omega)
      exact ra_Cut s A c rs K w hf a t u hq
     ·subst e
      obtain⟨a,t,rfl⟩:∃a t,r=[a,t]:=len2 (by
       have:(dkN A0V).2=3:=by decide
       omega)
      exact B9p s A c rs K w hf a t hq
     ·subst e
      obtain⟨a,rfl⟩:∃a,r=[a]:=len1 (by
       have:(dkN A0Q).2=2:=by decide
       omega)
      exact B9q s A c rs K w hf a hq
     ·subst e
      obtain⟨a,rfl⟩:∃a,r=[a]:=len1 (by
       have:(dkN A0J).2=2:=by decide
       omega)
      exact B9r s A c rs K w hf a hq
     ·subst e
      obtain⟨a,rfl⟩:∃a,r=[a]:=len1 (by
       have:(dkN A0E).2=2:=by decide
       omega)
      exact B9s s A c rs K w hf a hq
     ·subst e
      obtain⟨a,t,rfl⟩:∃a t,r=[a,t]:=len2 (by
       have:(dkN A0o).2=3:=by decide
       omega)
      exact B9t s A c rs K w hf a t hq
     ·subst e
      obtain⟨a,t,rfl⟩:∃a t,r=[a,t]:=len2 (by
       have:(dkN A0j).2=3:=by decide
       omega)
      exact B8x s A c rs K w hf a t hq
     ·subst e
      obtain⟨a,rfl⟩:∃a,r=[a]:=len1 (by
       have:(dkN A0y).2=2:=by decide
       omega)
      exact B9u s A c rs K w hf a hq
     ·subst e
      obtain⟨a,rfl⟩:∃a,r=[a]:=len1 (by
       have:(dkN A0w).2=2:=by decide
       omega)
      exact B9v s A c rs K w hf a hq
    ·exact B8w s A c rs K w hf x0 r hr0 hk0 hc hq
  ·exact B7j s A c rs K w hf x0 r hr0 hka hq
theorem B3Y{w:World}{base:Nat}{e:TypeId}{size:Nat}{v:Value}{n:Nat}{xs:List Value}(h:w.ownsRow base e size v n xs):∀k,v.ownBlock=some k→k<w.heap.size:=fun k hk=>(DD h k hk).2
theorem B5b(s:ByteArray)(mx:Int)(w:World)(hs:s.size≤1048576)(hm:w.cell? ⟨0,0,none⟩=some (.int .i64 mx))(h4:4096<s.size∨60<(lns s).length):
 Calls Tryz.prog 16 #[.string s,.func (.func 10) #[] #[]] w fun e w'=>e= .returned (.tuple #[.slice none 0 0,.int .i64 2])∧Below w.heap.size w w':=by
 have HSP:=AA (Tryz.strings_Split s ⟨#[10]⟩ mx w EE hm EF)
 rw[←A6l,A5N] at HSP
 obtain⟨n,hn⟩:∃n,(lns s).length=n:=⟨_,rfl⟩
 have HN:=AA hn
 rw[hn] at HSP h4
 have hnl:n≤1048577:=by have:=A7s s;omega
 have hb2:Below w.heap.size w (w.alloc (.cells (strCells (lns s)).toArray 9)):=(AI _ _).alloc (AD _) _
 have hrd2:Rd (w.alloc (.cells (strCells (lns s)).toArray 9)) (w.heap.size+1) 1 (some ⟨w.heap.size,0,none⟩) n (strCells (lns s)):=by
  exact C1e
 have hsz2:(w.alloc (.cells (strCells (lns s)).toArray 9)).heap.size=w.heap.size+1:=by simp
 clear hm hn hrd2 hsz2
 by_cases h5:4096<s.size
 ·have g1:decide ((4096:Int)<(s.size:Int))=true:=AG EE
  have g1':decide (4096<s.size)=true:=AG h5
  go_enter Tryz.func16,Tryz.ntmps16
  exact C1i
 ·have g1:decide ((4096:Int)<(s.size:Int))=false:=AC EE
  have g1':decide (4096<s.size)=false:=AC h5
  have g2:decide ((60:Int)<(n:Int))=true:=AG EE
  have g2':decide (60<n)=true:=AG EE
  go_enter Tryz.func16,Tryz.ntmps16
  exact C1i
theorem B5c(s:ByteArray)(mx:Int)(w:World)(hs:s.size≤1048576)(ht:TabI w)(hm:w.cell? ⟨0,0,none⟩=some (.int .i64 mx))(hw0:0<w.heap.size)(h4:¬(4096<s.size∨60<(lns s).length)):
 Calls Tryz.prog 16 #[.string s,.func (.func 10) #[] #[]] w fun e w'=>∃A c,e= .returned (.tuple #[.slice A (A1r [] (lns s)).length c,.int .i64 0])∧Rd w' w'.heap.size 1 A (A1r [] (lns s)).length (strCells (A1r [] (lns s)))∧Below w.heap.size w w':=by
 obtain⟨i0,hi0,hz0,hz1,hz2⟩:=info_parts A2C
 have HSP:=AA (Tryz.strings_Split s ⟨#[10]⟩ mx w EE hm EF)
 rw[←A6l,A5N] at HSP
 obtain⟨n,hn⟩:∃n,(lns s).length=n:=⟨_,rfl⟩
 have HN:=AA hn
 rw[hn] at HSP h4
 have hnl:n≤1048577:=by have:=A7s s;omega
 have hb2:Below w.heap.size w (w.alloc (.cells (strCells (lns s)).toArray 9)):=(AI _ _).alloc (AD _) _
 have hrd2:Rd (w.alloc (.cells (strCells (lns s)).toArray 9)) (w.heap.size+1) 1 (some ⟨w.heap.size,0,none⟩) n (strCells (lns s)):=by
  exact C1e
 have hsz2:(w.alloc (.cells (strCells (lns s)).toArray 9)).heap.size=w.heap.size+1:=by simp
 have HEL:=AA (fun x (h:x∈lns s)=>B7k h)
 have HT:=AA ht
 have HMX:=AA hm
 have HW0:=AA hw0
 have HDL:Hid ((A1r [] (lns s)).length≤n):=by rw[Hid,←hn];exact A4S _ _
 obtain⟨out,hout⟩:∃out,A1r [] (lns s)=out:=⟨_,rfl⟩
 have HOUT:=AA hout
 rw[hout] at HDL⊢
 have hs4:s.size≤4096:=EE
 have hn6:n≤60:=EE
 have g1:decide ((4096:Int)<(s.size:Int))=false:=AC EE
 have g1':decide (4096<s.size)=false:=AC EE
 have g2:decide ((60:Int)<(n:Int))=false:=AC EE
 have g2':decide (60<n)=false:=AC EE
 clear ht hm hw0 hn h4 hout
 go_enter Tryz.func16,Tryz.ntmps16
 go_wp2_with fail
 refine HSP.out.mono ?_
 rintro e w2 ⟨rfl,hw2⟩
 rw[←hw2] at hb2 hrd2 hsz2
 have HB2:=AA hb2
 have HRD2:=AA hrd2
 have HSZ2:=AA hsz2
 clear hw2 HSP hb2 hrd2 hsz2
 go_wp2_with fail
 have hB:Below w2.heap.size w2 (w2.alloc (.cells #[.slice none 0 0] 29)):=(AI _ _).alloc (AD _) _
 have HBK:Hid (Blk (w2.alloc (.cells #[.slice none 0 0] 29)) w2.heap.size 29 #[.slice none 0 0]):=Blk.new_ _ _ _
 have HB:=AA hB
 have HRB:=AA (by have:=HRD2.out;rw[←HSZ2.out] at this;exact this:Rd w2 w2.heap.size 1 (some ⟨w.heap.size,0,none⟩) n (strCells (lns s)))
 have HRK:=AA (fun W (hb:Below w2.heap.size w2 W)=>HRB.out.below hb)
 have HTT:Hid (TabI w2):=A0c HT.out HB2.out
 have HMM:Hid (w2.cell? ⟨0,0,none⟩=some (.int .i64 mx)):=(HB2.out.cell (p:=⟨0,0,none⟩) HW0.out).trans HMX.out
 have HWW:Hid (0<w2.heap.size):=AO HW0.out HB2.out.size
 have hgw:w.heap.size<w2.heap.size:=by rw[HSZ2.out];omega
 go_loopw [8,26] (fun ov iv wr=>∃(k:Nat) (q:List (List UInt8)) (A:Option Addr) (c:Nat) (rs:List Rc),k≤n∧iv= .int .i64 (k:Int)∧Hid (q++A1r (rs.map Rc.s) ((lns s).drop k)=out)∧q.length≤k∧Hid (RhAt wr (fun k=>k=w2.heap.size∨ov.ownBlock=some k) A c rs)∧Hid (HsOk (rs.map Rc.s))∧Hid (NmOk (rs.map Rc.s))∧Hid (Blk wr w2.heap.size 29 #[.slice A rs.length c])∧Hid (wr.ownsRow w2.heap.size 9 1 ov q.length (strCells q))∧Hid (∀b,ov.ownBlock=some b→b≠w2.heap.size)∧Below w2.heap.size w2 wr) (fun _ iv _=>n-(intOf iv).toNat)
 case atStart=>exact⟨0,[],none,0,[],AS _,rfl,by rw[Hid,Az];exact HOUT.out,AD _,RhAt.nil_ _ _,HsOk.nil_,NmOk.nil_,HBK.out,Ad _ _ _ _,(fun b h=>by cases h),HB.out⟩
 case round=>
  clear HBK HB
  obtain⟨k,q,A,c,rs,hk,rfl,HQ,hqk,HRH,HHO,HNO,HBK,HOWN,HAP,hb⟩:=hrel
  have hbs:=hb.size
  by_cases hlt:k<n
  ·have g3:decide ((k:Int)<(n:Int))=true:=AG EE
   have g3':decide (k<n)=true:=AG hlt
   obtain⟨ad,had,hab,hcx⟩:=A2t (HRK.out wr hb) hlt
   obtain rfl:=Aw had
   have hadd:(⟨w.heap.size,0,none⟩:Addr).add k=⟨w.heap.size,k,none⟩:=by unfold Addr.add;split<;>simp_all
   rw[hadd] at hcx
   clear hadd had
   have hkl:k<(lns s).length:=by rw[HN.out];exact hlt
   have HSK:=AA (fun h0=>A9n (P:=rs.map Rc.s) hkl h0)
   have HST:=AA (fun h0=>A9o (P:=rs.map Rc.s) hkl h0)
   have HGD:Hid ((lns s).getD k []=(lns s)[k]'hkl):=by rw[Hid,AK,AL hkl];rfl
   have hxl:=HEL.out ((lns s)[k]'hkl) (Ac hkl)
   rw[HGD.out] at hcx
   obtain⟨x,hx9⟩:∃x,(lns s)[k]'hkl=x:=⟨_,rfl⟩
   rw[hx9] at hcx hxl HSK HST
   clear HGD hx9 hkl
   have HEQ:Hid ((S x).toList=x):=by rw[Hid,Ap];rfl
   by_cases hx0:x=[]
   ·have e1:(S x).toList.isEmpty=true:=by rw[HEQ.out,hx0];rfl
    have e2:((S x).toList==[])=true:=by rw[HEQ.out,hx0];rfl
    have e3:((S x).toList !=[])=false:=by rw[HEQ.out,hx0];rfl
    have HQ2:Hid (q++A1r (rs.map Rc.s) ((lns s).drop (k+1))=out):=by rw[Hid,←HSK.out hx0];exact HQ.out
    clear HEQ HSK HST hx0 HQ
    generalize S x=X at*
    go_wp2_with fail
    go_roundw
    case rel=>exact⟨k+1,q,A,c,rs,by omega,by go_num,HQ2.out,by omega,HRH,HHO,HNO,HBK,HOWN,HAP,hb⟩
    case measure=>simp[intOf];omega
   ·have e1:(S x).toList.isEmpty=false:=by rw[HEQ.out];simpa using hx0
    have e2:((S x).toList==[])=false:=by rw[HEQ.out];simpa using hx0
    have e3:((S x).toList !=[])=true:=by rw[HEQ.out];simpa using hx0
    have hxs:(S x).size≤4096:=by rw[A0b];omega
    have HQ2:Hid ((q++ [dkT (rs.map Rc.s) (wds x)])++A1r (dkP (rs.map Rc.s) (wds x)) ((lns s).drop (k+1))=out):=by
     rw[Hid,AN,←HQ.out,HST.out hx0];rfl
    have HAN:=AA (B1d (S x) A c rs (fun k=>k=w2.heap.size∨u8.ownBlock=some k) wr ⟨HRH.out,fun k hk=>hk.elim (fun e=>e▸HBK.out.lt) (B3Y HOWN.out k),HHO.out,HNO.out,hxs,A0c HTT.out hb,⟨mx,(hb.cell (p:=⟨0,0,none⟩) HWW.out).trans HMM.out⟩,AO HWW.out hb.size⟩)
    unfold A2h at HAN
    rw[L_S] at HAN
    have HNO2:=AA (HNO.out.dk (wds x))
    have HDO:=AA (B6e HHO.out (wds x))
    clear HEQ HSK HST hx0 HQ hxl
    obtain⟨X,hX⟩:∃X,S x=X:=⟨_,rfl⟩
    rw[hX] at hcx e1 e2 e3 hxs HAN
    clear hX
    obtain⟨T,hT⟩:∃T,dkT (rs.map Rc.s) (wds x)=T:=⟨_,rfl⟩
    obtain⟨P2,hP2⟩:∃P2,dkP (rs.map Rc.s) (wds x)=P2:=⟨_,rfl⟩
    rw[hT,hP2] at HAN HQ2
    rw[hP2] at HNO2 HDO
    clear hT hP2
    have hC7:=HBK.out.cell0
    generalize rs.length=N at*
    go_wp2_with fail
    refine HAN.out.mono ?_
    rintro e w5 ⟨A5,c5,rs5,rfl,hp5,hr5,hb5⟩
    have hrow5:w5.ownsRow w2.heap.size 9 1 u8 q.length (strCells q):=A1l HOWN.out hb5
    have hbk5:=HBK.out.below' hb5
    have hB5:Below w2.heap.size w2 w5:=hb.trans (hb5.mono hbs)
    have HHO5:Hid (HsOk (rs5.map Rc.s)):=by rw[Hid,hp5];exact HDO.out
    have HNO5:Hid (NmOk (rs5.map Rc.s)):=by rw[Hid,hp5];exact HNO2.out
    have HQ5:Hid ((q++ [T])++A1r (rs5.map Rc.s) ((lns s).drop (k+1))=out):=by rw[Hid,hp5];exact HQ2.out
    obtain⟨N5,hN5⟩:∃N5,rs5.length=N5:=⟨_,rfl⟩
    have HN5:=AA hN5
    rw[hN5]
    clear HAN HOWN HBK HRH HHO HNO HDO HNO2 HQ2 hp5 hN5 hC7
    go_wp2_with fail
    have hB6:Below w2.heap.size w2 (w5.alloc (.cells #[.slice A5 N5 c5] 29)):=hB5.alloc hB5.size _
    have hb56:Below w5.heap.size w5 (w5.alloc (.cells #[.slice A5 N5 c5] 29)):=(AI _ _).alloc (AD _) _
    have hrow6:=A1l hrow5 hb56
    have HR6:=AA (hr5.below hb56)
    have HBK6:=AA (hbk5.below' hb56)
    have hBK11:Blk (w5.alloc (.cells #[.slice A5 N5 c5] 29)) w5.heap.size 29 #[.slice A5 N5 c5]:=Blk.new_ _ _ _
    have HBK11:=AA hBK11
    have hC11:=hBK11.cell0
    have hlt11:=B3Y hrow5
    have hlo11:w2.heap.size<w5.heap.size:=hbk5.lt
    generalize w5.alloc (.cells #[.slice A5 N5 c5] 29)=w6 at*
    generalize w5.heap.size=g11 at*
    clear hr5 hbk5 hBK11 hb56 hrow5 hb5 hB5
    obtain⟨F1,HF1,hcell10⟩:=cells1 ⟨g11,0,none⟩ (.slice A5 N5 c5)
    refine EB [(0,true),(1,true),(2,true),(3,false),(4,false),(5,false),(6,true)] HF1 ?_
    intro hne1
    simp only[A0i,AT,AP,AR]
    repeat(first|((first|refine Dt ?_|refine Du ?_);intro K hK;go_big_quiet_op;go_big_quiet_on)|((first|refine Dv ?_|refine Dw ?_);simp only[Act.put,AB,AE,AF]))
    refine A0a ?_
    go_wp2_with fail
    have hb67:Below w6.heap.size w6 (w6.alloc (.cells #[.string (S T)] 9)).drew:=((AI _ _).alloc (AD _) _).drew
    have hrow7:=A1l hrow6 hb67
    have hB7:=hB6.trans (hb67.mono hB6.size)
    have HR7:=AA ((HR6.out.below hb67).mono (K':=fun k=>k=w2.heap.size∨u8.ownBlock=some k∨k=(w6.alloc (.cells #[.string (S T)] 9)).drew.heap.size) (fun k hk=>hk.elim (fun h=> .inl (.inl h)) (fun h=>h.elim (fun h=> .inl (.inr h)) (fun h=> .inr EE))))
    have HBK7:=AA (HBK6.out.below' hb67)
    have HBK117:=AA (HBK11.out.below' hb67)
    refine ED HF1 ?_ HBK117.out.cell0
    repeat(first|((first|refine Dt ?_|refine Du ?_);intro K hK;go_big_quiet_op;go_big_quiet_on)|((first|refine Dv ?_|refine Dw ?_);simp only[Act.put,AB,AE,AF]))
    generalize hw7:(w6.alloc (.cells #[.string (S T)] 9)).drew=w7 at*
    have hcc7:∀j u,([.string (S T)]:List Value)[j]? =some u→w7.cell? ((⟨w6.heap.size,0,none⟩:Addr).add j)=some u:=by rw[←hw7];exact BL w6 _ _
    have hsz7:w7.heap.size=w6.heap.size+1:=by rw[←hw7];simp
    have hsz8:=hB7.size
    clear hw7 hrow6 HR6 HBK6 HBK11 hb67
    refine A0a ?_
    go_wp2_with (at_builtin;go_must (refine A3j rfl _ _ _ rfl w2.heap.size 9 i0 _ 1 16 Tryz.underlying25 hi0 hz0 hz1 hz2 rfl EE _ q.length (strCells q) rfl hrow7 ⟨_,0,none⟩ 1 1 [.string (S T)] rfl rfl hcc7 (by simp[Value.oneCell']) EE EE hsz8 ?_);intro v8 w8 hown8 hg8 hb8 hob8)
    have hch8:Chg w7 w8 (fun k=>u8.ownBlock=some k):=Chg.of_gb hg8 (fun k hk=>hk)
    have HBK8:=AA (HBK7.out.chgH hch8 (fun e=>HAP.out _ e rfl))
    have HBK118:=AA (HBK117.out.chgH hch8 (fun e=>by have:=hlt11 _ e;omega))
    have HR8:Hid (RhAt w8 (fun k=>k=w2.heap.size∨v8.ownBlock=some k) A5 c5 rs5):=(HR7.out.chg (hch8.monoH (fun k _ hk=> .inr (.inl hk)))).mono (fun k hk=> .inl (hk.elim .inl (fun h=> .inr (hob8.elim (fun e=> .inl (e▸h)) (fun e=> .inr (Aw (h.symm.trans e)))))))
    have HAP8:Hid (∀b,v8.ownBlock=some b→b≠w2.heap.size):=fun b hb9 e=>by
     rcases hob8 with h|h
     ·exact HAP.out b (h▸hb9) e
     ·have:=Aw (hb9.symm.trans h);have:=HBK7.out.lt;omega
    have HB8:=AA (hB7.trans hb8)
    have HOWN8:=AA hown8
    clear hch8 hob8 hg8 hb8 hown8 HR7 HBK7 HBK117 HAP hcc7 hrow7 hsz8 hB7
    refine ED HF1 ?_ HBK118.out.cell0
    repeat(first|((first|refine Dt ?_|refine Du ?_);intro K hK;go_big_quiet_op;go_big_quiet_on)|((first|refine Dv ?_|refine Dw ?_);simp only[Act.put,AB,AE,AF]))
    have z8:=HBK8.out.cell0;have z8f:=HBK8.out.frozen 0
    have hng:g11≠w2.heap.size:=EE
    refine A0a ?_
    go_wp2_with fail
    refine ED HF1 ?_ ((HBK118.out.far hng _).cell0)
    repeat(first|((first|refine Dt ?_|refine Du ?_);intro K hK;go_big_quiet_op;go_big_quiet_on)|((first|refine Dv ?_|refine Dw ?_);simp only[Act.put,AB,AE,AF]))
    refine A0g ?_
    clear HF1 hcell10 hne1
    have hcs:=Chg.setH w8 ⟨w2.heap.size,0,none⟩ (.slice A5 N5 c5)
    have HR9:=AA (HR8.out.chg (hcs.monoH (fun k _ hk=> .inl hk)))
    have HBK9:=AA (HBK8.out.set_ 0 (.slice A5 N5 c5))
    have HOWN9:=AA (B3X HOWN8.out hcs (fun k hk e=>HAP8.out k hk e))
    have HB9:=AA (HB8.out.setCell (p:=⟨w2.heap.size,0,none⟩) (AD _) (.slice A5 N5 c5))
    generalize w8.setCell ⟨w2.heap.size,0,none⟩ (.slice A5 N5 c5)=w9 at*
    clear hcs HR8 HBK8 HOWN8 HB8 HBK118 z8 z8f
    go_wp2_with fail
    go_roundw
    case rel=>
     refine⟨k+1,q++ [T],A5,c5,rs5,by omega,by go_num,HQ5.out,by simp;omega,HR9,HHO5,HNO5, ?_, ?_,HAP8,HB9.out⟩
     ·rw[HN5.out];exact HBK9
     ·rw[Hid,AJ,Ah,←A3v]
      exact HOWN9.out
    case measure=>simp[intOf];omega
  ·obtain rfl:k=n:=EE
   have g3:decide ((k:Int)<(k:Int))=false:=AC EE
   obtain rfl:q=out:=by
    have h:=HQ.out
    rw[←HN.out,DE,A1r,Aq] at h
    exact h
   obtain⟨A,c,rfl,_,_,hrq⟩:=A1e HOWN.out
   clear HQ HOWN HAP HRH HNO HHO
   go_wp2_with fail
   go_ret2
   exact⟨A,c,rfl,hrq,HB2.out.trans (hb.mono HB2.out.size)⟩
end Go.Proofs.YtplgghjdidmcfaaGreatDoor
