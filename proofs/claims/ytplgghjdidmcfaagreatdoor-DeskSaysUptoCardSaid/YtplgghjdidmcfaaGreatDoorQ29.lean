/- Written anew, smaller, by a program of our own out of our texts. No condition of our own. -/
import Derived.Test.YtplgghjdidmcfaaGreatDoorQ28
import Derived.Test.YtplgghjdidmcfaaGreatDoorQ21
import Derived.Test.YtplgghjdidmcfaaGreatDoorQ09
import Derived.Test.YtplgghjdidmcfaaGreatDoorQ14
import Derived.Test.YtplgghjdidmcfaaGreatDoorQ12
set_option maxRecDepth 100000
set_option maxHeartbeats 16000000
set_option linter.all false
namespace Go.Proofs.YtplgghjdidmcfaaGreatDoor
open Go.RowKit
theorem C0O{P:Prop}(h:P:=by
 go_enter Tryz.func66,Tryz.ntmps66
 go_wp2_with fail
 refine(HL.out _).mono ?_
 rintro e w1 ⟨rfl,hb1⟩
 have C0:=Blk.below' (Blk.alloc (Blk.new_ w 80 #[.string tx,.string d,.int .i64 (sf:Int)]) (.cells #[.string ⟨#[]⟩,.string ⟨#[]⟩,.int .i64 0] 80)) hb1
 have C1:=Blk.below' (Blk.new_ (w.alloc (.cells #[.string tx,.string d,.int .i64 (sf:Int)] 80)) 80 #[.string ⟨#[]⟩,.string ⟨#[]⟩,.int .i64 0]) hb1
 rw[Ar] at C1
 have hbA:Below w.heap.size w w1:=A0h Ds hb1
 have n0:w.heap.size<w1.heap.size:=Blk.lt C0
 have n1:w.heap.size+1<w1.heap.size:=Blk.lt C1
 have m0:w.heap.size≠w1.heap.size:=EE
 have m1:w.heap.size+1≠w1.heap.size:=EE
 have e0:=Blk.cell0 C0;have e1:=Blk.cell1 C0;have e2:=Blk.cell2 C0
 have d0:=Blk.cell0 C1;have d1:=Blk.cell1 C1;have d2:=Blk.cell2 C1
 have f0:=C1.frozen 0;have f1:=C1.frozen 1;have f2:=C1.frozen 2
 clear C0 C1 hb1
 go_wp2_with fail
 (apply bodyPost_ret;(simp[results,Tryz.results66,go_sem,d0,d1,d2,n1];rfl);rfl)
 exact⟨rfl,Ds⟩
 ):P:=h
theorem C2l{P:Prop}(h:P:=by
 rw[HN.out]
 go_enter Tryz.func31,Tryz.ntmps31
 go_wp2_with fail
 go_ret
 exact⟨rfl,Ds⟩
 ):P:=h
theorem A2j(x:Dd)(base gh:Nat)(v:Value)(ps:List Pc)(w:World)(h:HsAt w base gh v ps)(hk:HsOk (ps.map Pc.s))(hb:base≤w.heap.size)(hx:DdOk w (HK gh v ps) x)(ht:TabI w):
 Calls Tryz.prog 8 #[.pointer (some ⟨gh,0,none⟩),x.val] w (A0Z w base gh v ps x):=by
 by_cases h0:x.kind<1∨10<x.kind
 ·exact B2k x base gh v ps w h h0
 cases hn:A0K x.name with
 |false=>exact B2l x base gh v ps w h hx EE EE hn
 |true=>
  by_cases h1:x.kind=1
  ·exact B6w x base gh v ps w h hk hb hx h1 hn
  by_cases hi:fnd x.name (ps.map Pc.s)<(ps.map Pc.s).length
  ·have hf:Found w base gh v ps x (fnd x.name (ps.map Pc.s)):=⟨h,hk,hb,hx,ht,hn,rfl,by rwa[AW] at hi⟩
   have hq:x.kind=2∨x.kind=3∨x.kind=4∨x.kind=5∨x.kind=6∨x.kind=7∨x.kind=8∨x.kind=9∨x.kind=10:=EE
   rcases hq with e|e|e|e|e|e|e|e|e
   ·exact houDo2 x base gh v ps _ w hf e
   ·exact houDo3 x base gh v ps _ w hf e
   ·exact houDo4 x base gh v ps _ w hf e
   ·exact houDo5 x base gh v ps _ w hf e
   ·exact houDo6 x base gh v ps _ w hf e
   ·exact houDo7 x base gh v ps _ w hf e
   ·exact houDo8 x base gh v ps _ w hf e
   ·exact houDo9 x base gh v ps _ w hf e
   ·exact B8Z x base gh v ps _ w hf e
  ·exact B4G x base gh v ps w h hk hx EE EE hn hi
def nmsP(P:List Ps):List (List UInt8):=P.map fun s=>L s.nm
theorem B0v{P:List Ps}{k:Nat}(hk:k<P.length):nmsP (P.take (k+1))=nmsP (P.take k)++ [L P[k].nm]:=by
 unfold nmsP
 rw[Aa hk,BM];rfl
theorem A6z(P:List Ps):(nmsP P).length=P.length:=by unfold nmsP;rw[AW]
theorem B2m(base gh:Nat)(v:Value)(ps:List Pc)(w:World)(h:HsAt w base gh v ps)(hn6:ps.length≤6):
 Calls Tryz.prog 7 #[.pointer (some ⟨gh,0,none⟩)] w fun e w'=>∃u,e= .returned u∧OwnO w' w.heap.size 9 1 u ps.length (strCells (hsN (ps.map Pc.s)))∧Below w.heap.size w w':=by
 obtain⟨i0,hi0,hz0,hz1,hz2⟩:=info_parts A2C
 obtain⟨A0,c0',rfl,_,_,hrd0⟩:=h.row.form
 have hcb:=h.blk.cell0
 have hgh:=h.blk.lt
 have HR:=AA hrd0
 clear h hrd0
 have HPL:Hid ((ps.map Pc.s).length=ps.length):=AW ..
 go_enter Tryz.func7,Tryz.ntmps7
 go_wp2_with fail
 go_loopw [3,11] (fun ov iv wr=>∃k:Nat,k≤ps.length∧iv= .int .i64 (k:Int)∧Hid (wr.ownsRow w.heap.size 9 1 ov (nmsP ((ps.map Pc.s).take k)).length (strCells (nmsP ((ps.map Pc.s).take k))))∧Below w.heap.size w wr) (fun _ iv _=>ps.length-(intOf iv).toNat)
 case atStart=>exact⟨0,AS _,rfl,Ad _ _ _ _,AI _ _⟩
 case round=>
  obtain⟨k,hk,rfl,HO,hb⟩:=hrel
  have hbs:=hb.size
  by_cases hlt:k<ps.length
  ·have g1:decide ((k:Int)<(ps.length:Int))=true:=AG EE
   have g1':decide (k<ps.length)=true:=AG hlt
   obtain⟨ad,rfl,_,c0,c1,c2⟩:=A2Y (HR.out.below hb) hlt rfl
   have hkp:k<(ps.map Pc.s).length:=by rw[HPL.out];exact hlt
   have HSU:=AA (B0v hkp)
   have HNM:Hid (L (ps.map Pc.s)[k].nm=L ps[k].s.nm):=by rw[Hid,Bf]
   rw[HNM.out] at HSU
   have hql:(nmsP ((ps.map Pc.s).take k)).length≤6:=by rw[A6z,AV,HPL.out];omega
   generalize nmsP ((ps.map Pc.s).take k)=q at*
   generalize ps[k].s.nm=nm at*
   generalize ps[k].ge=ge at*
   generalize ps[k].gf=gf at*
   clear HNM hkp
   have hownA:=HO.out.alloc (.cells #[.string nm,.pointer (some ⟨ge,0,none⟩),.pointer (some ⟨gf,0,none⟩)] 61)
   have HY:=Blk.new_ wr 61 #[.string nm,.pointer (some ⟨ge,0,none⟩),.pointer (some ⟨gf,0,none⟩)]
   have hbA:Below w.heap.size w (wr.alloc (.cells #[.string nm,.pointer (some ⟨ge,0,none⟩),.pointer (some ⟨gf,0,none⟩)] 61)):=hb.alloc hbs _
   have y0:=HY.cell0
   have hnew:=BL (wr.alloc (.cells #[.string nm,.pointer (some ⟨ge,0,none⟩),.pointer (some ⟨gf,0,none⟩)] 61)) (.string nm) 9
   rw[Ar] at hnew
   have hbAs:=hbA.size
   go_wp2_with (at_builtin;go_must (refine A0r rfl _ _ _ rfl w.heap.size 9 i0 _ 1 16 Tryz.underlying25 hi0 hz0 hz1 hz2 rfl EE _ q.length (strCells q) rfl (hownA.alloc _) ⟨wr.heap.size+1,0,none⟩ 1 1 [.string nm] rfl rfl hnew (by simp[Value.oneCell']) EE EE (by simp at hbAs⊢;omega) ?_);intro v6 w6 hown6 hg6 hb6)
   have HN:Hid (w6.ownsRow w.heap.size 9 1 v6 (nmsP ((ps.map Pc.s).take (k+1))).length (strCells (nmsP ((ps.map Pc.s).take (k+1))))):=by
    rw[Hid,HSU.out,AJ]
    have e:strCells (q++ [L nm])=strCells q++ [.string nm]:=by unfold strCells;rw[BM];rfl
    rw[e]
    exact hown6
   have hb7:Below w.heap.size w w6:=(hbA.alloc hbAs _).trans hb6
   go_roundw
   case rel=>exact⟨k+1,by omega,by go_num,HN.out,hb7⟩
   case measure=>simp[intOf];omega
  ·obtain rfl:k=ps.length:=EE
   have g1:decide ((ps.length:Int)<(ps.length:Int))=false:=AC EE
   have g1':decide (ps.length<ps.length)=false:=AC hlt
   have htk:(ps.map Pc.s).take ps.length=ps.map Pc.s:=AX (by rw[HPL.out];exact AD _)
   rw[htk] at HO
   have hlen:(nmsP (ps.map Pc.s)).length=ps.length:=by rw[A6z,HPL.out]
   have hst:=A7T (nmsP (ps.map Pc.s)) u3 w wr HO.out hb EE
   have HST:=AA hst
   have HLN:=AA hlen
   clear hst hlen htk HO
   obtain⟨q,hq⟩:∃q,nmsP (ps.map Pc.s)=q:=⟨_,rfl⟩
   rw[hq] at HST HLN
   have HSN:Hid (hsN (ps.map Pc.s)=A5I q):=by rw[Hid,←hq];rfl
   clear hq
   go_wp2_with fail
   refine HST.out.mono ?_
   rintro e w2 ⟨rfl,hown2,hb2⟩
   have HF:Hid (OwnO w2 w.heap.size 9 1 u3 ps.length (strCells (hsN (ps.map Pc.s)))):=by
    rw[Hid,HSN.out,←HLN.out]
    exact OwnO.of_own hown2
   clear hown2
   go_wp2_with fail
   go_ret
   exact⟨_,rfl,HF.out,hb2⟩
def lows:List UInt8:=[97,98,99,100,101,102,103,104,105,106,107,108,109,110,111,112,113,114,115,116,117,118,119,120,121,122]
theorem low_in(b:UInt8):lows.contains b=A1B b:=by
 have h:∀n:Fin 256,lows.contains (UInt8.ofNat n.val)=A1B (UInt8.ofNat n.val):=by decide
 have:=h ⟨b.toNat,b.toNat_lt⟩
 simpa using this
theorem B0w(w:List UInt8):Lib.trimS w lows=[]↔w.all A1B=true:=by
 have e:(fun b=>lows.contains b)=A1B:=funext low_in
 unfold Lib.trimS Lib.trimLeftS Lib.trimRightS
 rw[e,A2B,Cp]
 constructor
 ·intro h
  have h2:(w.reverse.dropWhile A1B)=[]:=by
   cases h3:w.reverse.dropWhile A1B with
   |nil=>rfl
   |cons a r=>
    exfalso
    rw[h3,DH,Ai] at h
    have:=List.head?_dropWhile_not A1B w.reverse
    rw[h3] at this
    simp[h.1] at this
  have h3:=A2B.1 h2
  rwa[Cp] at h3
 ·intro h
  have h2:w.reverse.all A1B=true:=by rw[Cp];exact h
  rw[A2B.2 h2];rfl
theorem B8l(X:ByteArray)(hX:X.size≤9223372036854775807)(W:World):
 Calls Tryz.prog 62 #[.string X,.string ⟨#[97,98,99,100,101,102,103,104,105,106,107,108,109,110,111,112,113,114,115,116,117,118,119,120,121,122]⟩] W fun e W'=>e= .returned (.string (S (Lib.trimS (L X) lows)))∧Below W.heap.size W W':=
 Any.strings_Trim_laid Tryz.lays160 EG X ⟨#[97,98,99,100,101,102,103,104,105,106,107,108,109,110,111,112,113,114,115,116,117,118,119,120,121,122]⟩ W EE EF (ascii_of_all EF)
theorem A1C(s:ByteArray)(w:World)(hs:s.size≤9223372036854775807):
 Calls Tryz.prog 31 #[.string s] w fun e w'=>e= .returned (.bool (A0K s))∧Below w.heap.size w w':=by
 have HTR:=AA (fun W=>B8l s EE W)
 by_cases h1:0<s.size
 ·have g1:decide ((0:Int)<(s.size:Int))=true:=AG EE
  have g1':decide (0<s.size)=true:=AG h1
  by_cases h2:s.size≤8
  ·have g2:decide ((s.size:Int)<9)=true:=AG EE
   have g2':decide (s.size<9)=true:=AG EE
   have HN:Hid (A0K s=(L s).all A1B):=by
    unfold Hid A0K
    exact B9Z
   have HE:Hid ((S (Lib.trimS (L s) lows)).toList.isEmpty=A0K s∧((S (Lib.trimS (L s) lows)).toList==[])=A0K s):=by
    have e:(S (Lib.trimS (L s) lows)).toList=Lib.trimS (L s) lows:=by rw[Ap];rfl
    rw[Hid,e,HN.out]
    constructor
    ·rw[BR,Dm]
     exact B0w (L s)
    ·rw[BR,At]
     exact B0w (L s)
   generalize S (Lib.trimS (L s) lows)=T at*
   go_enter Tryz.func31,Tryz.ntmps31
   go_wp2_with fail
   refine(HTR.out _).mono ?_
   rintro e w2 ⟨rfl,hb2⟩
   go_wp2_with fail
   go_ret
   exact⟨B1j (by first|exact HE.out.1|exact HE.out.2),hb2⟩
  ·have g2:decide ((s.size:Int)<9)=false:=AC EE
   have g2':decide (s.size<9)=false:=AC EE
   have HN:Hid (A0K s=false):=by
    unfold Hid A0K
    rw[AC h2,Cj]
    rfl
   exact C2l
 ·have g1:decide ((0:Int)<(s.size:Int))=false:=AC EE
  have g1':decide (0<s.size)=false:=AC h1
  have HN:Hid (A0K s=false):=by
   unfold Hid A0K
   rw[AC h1]
   rfl
  exact C2l
theorem B2n(rs:List Rc)(A0:Option Addr)(c0':Nat)(K:Nat→Prop)(w:World)(h:RhAt w K A0 c0' rs)(hn6:rs.length≤6):
 Calls Tryz.prog 12 #[.agg #[.slice A0 rs.length c0']] w fun e w'=>∃u,e= .returned u∧OwnO w' w.heap.size 9 1 u rs.length (strCells (hsN (rs.map Rc.s)))∧Below w.heap.size w w':=by
 obtain⟨i0,hi0,hz0,hz1,hz2⟩:=info_parts A2C
 have HR:=AA h.row.rd
 clear h
 have HPL:Hid ((rs.map Rc.s).length=rs.length):=AW ..
 have hbB:Below w.heap.size w (w.alloc (.cells #[.slice A0 rs.length c0'] 29)):=(AI _ _).alloc (AD _) _
 go_enter Tryz.func12,Tryz.ntmps12
 go_wp2_with fail
 go_loopw [3,9] (fun ov iv wr=>∃k:Nat,k≤rs.length∧iv= .int .i64 (k:Int)∧Hid (wr.ownsRow w.heap.size 9 1 ov (nmsP ((rs.map Rc.s).take k)).length (strCells (nmsP ((rs.map Rc.s).take k))))∧Below w.heap.size w wr) (fun _ iv _=>rs.length-(intOf iv).toNat)
 case atStart=>exact⟨0,AS _,rfl,Ad _ _ _ _,hbB⟩
 case round=>
  clear hbB
  obtain⟨k,hk,rfl,HO,hb⟩:=hrel
  have hbs:=hb.size
  by_cases hlt:k<rs.length
  ·have g1:decide ((k:Int)<(rs.length:Int))=true:=AG EE
   have g1':decide (k<rs.length)=true:=AG hlt
   obtain⟨ad,rfl,_,c0,c1,c2,c3,c4,c5⟩:=A6j (HR.out.below hb) hlt rfl
   have hkp:k<(rs.map Rc.s).length:=by rw[HPL.out];exact hlt
   have HSU:=AA (B0v hkp)
   have HNM:Hid (L (rs.map Rc.s)[k].nm=L rs[k].s.nm):=by rw[Hid,Bf]
   rw[HNM.out] at HSU
   have hql:(nmsP ((rs.map Rc.s).take k)).length≤6:=by rw[A6z,AV,HPL.out];omega
   generalize nmsP ((rs.map Rc.s).take k)=q at*
   generalize rs[k]=r at*
   obtain⟨⟨rn,rtx,rd,rsf,rb,ro⟩,rAb,rcb,rAo,rco⟩:=r
   simp only at c0 c1 c2 c3 c4 c5 HSU
   generalize rb.length=nb at*
   generalize ro.length=no at*
   clear HNM hkp
   have hownA:=HO.out.alloc (.cells #[.string rn,.string rtx,.string rd,.int .i64 (rsf:Int),.slice rAb nb rcb,.slice rAo no rco] 82)
   have HY:=Blk.new_ wr 82 #[.string rn,.string rtx,.string rd,.int .i64 (rsf:Int),.slice rAb nb rcb,.slice rAo no rco]
   have hbA:Below w.heap.size w (wr.alloc (.cells #[.string rn,.string rtx,.string rd,.int .i64 (rsf:Int),.slice rAb nb rcb,.slice rAo no rco] 82)):=hb.alloc hbs _
   have y0:=HY.cell0
   have hnew:=BL (wr.alloc (.cells #[.string rn,.string rtx,.string rd,.int .i64 (rsf:Int),.slice rAb nb rcb,.slice rAo no rco] 82)) (.string rn) 9
   rw[Ar] at hnew
   have hbAs:=hbA.size
   go_wp2_with (at_builtin;go_must (refine A0r rfl _ _ _ rfl w.heap.size 9 i0 _ 1 16 Tryz.underlying25 hi0 hz0 hz1 hz2 rfl EE _ q.length (strCells q) rfl (hownA.alloc _) ⟨wr.heap.size+1,0,none⟩ 1 1 [.string rn] rfl rfl hnew (by simp[Value.oneCell']) EE EE (by simp at hbAs⊢;omega) ?_);intro v6 w6 hown6 hg6 hb6)
   have HN:Hid (w6.ownsRow w.heap.size 9 1 v6 (nmsP ((rs.map Rc.s).take (k+1))).length (strCells (nmsP ((rs.map Rc.s).take (k+1))))):=by
    rw[Hid,HSU.out,AJ]
    have e:strCells (q++ [L rn])=strCells q++ [.string rn]:=by unfold strCells;rw[BM];rfl
    rw[e]
    exact hown6
   have hb7:Below w.heap.size w w6:=(hbA.alloc hbAs _).trans hb6
   go_roundw
   case rel=>exact⟨k+1,by omega,by go_num,HN.out,hb7⟩
   case measure=>simp[intOf];omega
  ·obtain rfl:k=rs.length:=EE
   have g1:decide ((rs.length:Int)<(rs.length:Int))=false:=AC EE
   have g1':decide (rs.length<rs.length)=false:=AC hlt
   have htk:(rs.map Rc.s).take rs.length=rs.map Rc.s:=AX (by rw[HPL.out];exact AD _)
   rw[htk] at HO
   have hlen:(nmsP (rs.map Rc.s)).length=rs.length:=by rw[A6z,HPL.out]
   have hst:=A7T (nmsP (rs.map Rc.s)) u3 w wr HO.out hb EE
   have HST:=AA hst
   have HLN:=AA hlen
   clear hst hlen htk HO
   obtain⟨q,hq⟩:∃q,nmsP (rs.map Rc.s)=q:=⟨_,rfl⟩
   rw[hq] at HST HLN
   have HSN:Hid (hsN (rs.map Rc.s)=A5I q):=by rw[Hid,←hq];rfl
   clear hq
   go_wp2_with fail
   refine HST.out.mono ?_
   rintro e w2 ⟨rfl,hown2,hb2⟩
   have HF:Hid (OwnO w2 w.heap.size 9 1 u3 rs.length (strCells (hsN (rs.map Rc.s)))):=by
    rw[Hid,HSN.out,←HLN.out]
    exact OwnO.of_own hown2
   clear hown2
   go_wp2_with fail
   go_ret
   exact⟨_,rfl,HF.out,hb2⟩
theorem B2o(s:ByteArray)(w:World)(hs:s.size≤200):
 Calls Tryz.prog 35 #[.string s] w fun e w'=>e= .returned (.agg #[.string s,.string (newD s),.int .i64 ((newD s).size:Int)])∧Below w.heap.size w w':=by
 have HE:=AA (A4u hs)
 have HN:Hid (appD ⟨#[]⟩ (recB s)=newD s):=rfl
 have hds:=(LfOk.new_ hs).size
 have HL:=AA (fun W=>A3A ⟨#[]⟩ (recB s) 0 W (AS _))
 rw[Hid,HE.out,HN.out] at HL
 have HL:=AA HL
 clear HN
 generalize newD s=D at*
 go_enter Tryz.func35,Tryz.ntmps35
 go_wp2_with fail
 refine(HL.out _).mono ?_
 rintro e w1 ⟨rfl,hb1⟩
 obtain⟨hc,hf⟩:=A2Q hb1
 have hz:=hb1.size
 simp only[Ar] at hc hf hz
 have hbA:Below w.heap.size w w1:=A0h Ds hb1
 have e0:w1.cell? ⟨w.heap.size,0,none⟩=some (.string ⟨#[]⟩):=by rw[hc _ _ EE];simp
 have e1:w1.cell? ⟨w.heap.size,1,none⟩=some (.string ⟨#[]⟩):=by rw[hc _ _ EE];simp
 have e2:w1.cell? ⟨w.heap.size,2,none⟩=some (.int .i64 0):=by rw[hc _ _ EE];simp
 have k0:w1.frozen? ⟨w.heap.size,0,none⟩=false:=by rw[hf _ _ EE];simp
 have k1:w1.frozen? ⟨w.heap.size,1,none⟩=false:=by rw[hf _ _ EE];simp
 have k2:w1.frozen? ⟨w.heap.size,2,none⟩=false:=by rw[hf _ _ EE];simp
 have hzl:w.heap.size<w1.heap.size:=EE
 have hzn:w.heap.size≠w1.heap.size:=EE
 clear hc hf hb1
 go_wp2_with fail
 (apply bodyPost_ret;(simp[results,Tryz.results35,go_sem,e0,e1,e2,hzl];rfl);rfl)
 exact⟨rfl,Ds⟩
theorem B4H(d:ByteArray)(sf:Nat)(mx:Int)(w:World)(hd:d.size≤4000)(hgd:good [] (A0P (L d)).1)(hm:w.cell? ⟨0,0,none⟩=some (.int .i64 mx))(hw0:0<w.heap.size):
 Calls Tryz.prog 133 #[.agg #[.string d,.int .i64 (sf:Int)]] w fun e w'=>e= .returned (.agg #[.string (A2x d),.string d,.int .i64 (sf:Int)])∧Below w.heap.size w w':=by
 have HM:Hid (∀W,Below w.heap.size w W→W.cell? ⟨0,0,none⟩=some (.int .i64 mx)):=fun W hb=>(hb.cell (p:=⟨0,0,none⟩) hw0).trans hm
 have HW0:=AA hw0
 clear hm hw0
 have HSC:=AA (fun W=>A7M _ d EE (AD _) W)
 have hcnt:=A5Q (L d)
 rw[A0e] at hcnt
 have HRD:Hid (A2x d=S (play [] (A0P (L d)).1)):=rfl
 generalize A0P (L d)=sc at*
 obtain⟨rs,cn⟩:=sc
 simp only at hgd hcnt HRD HSC
 have HG:=AA hgd;clear hgd
 go_enter Tryz.func133,Tryz.ntmps133
 go_wp2_with fail
 refine(HSC.out _).mono ?_
 rintro e w1 ⟨v,rfl,hown,hb1⟩
 obtain⟨A,c,rfl,hnc,hcm,hrd⟩:=A1e hown
 have HR:=AA hrd
 clear hown hrd
 obtain⟨hc,hf⟩:=A2Q hb1
 have hz:=hb1.size
 simp only[Ar] at hc hf hz
 have hbA:Below w.heap.size w w1:=A0h Ds hb1
 have hs1:=hbA.size
 have C1:Hid (Blk w1 w.heap.size 78 #[.string d,.int .i64 (sf:Int)]):=Blk.below' (Blk.alloc (Blk.new_ _ _ _) _) hb1
 have C2:Hid (Blk w1 (w.heap.size+1) 80 #[.string ⟨#[]⟩,.string ⟨#[]⟩,.int .i64 0]):=Blk.below' (by
  have:=Blk.new_ (w.alloc (.cells #[.string d,.int .i64 (sf:Int)] 78)) 80 #[.string ⟨#[]⟩,.string ⟨#[]⟩,.int .i64 0]
  rw[Ar] at this
  exact this) hb1
 clear hc hf hb1
 obtain⟨n,hn⟩:∃n,rs.length=n:=⟨_,rfl⟩
 rw[hn] at HR hcnt hnc⊢
 have HN:=AA hn;clear hn
 go_wp2_with fail
 go_loopw [5,18] (fun sv iv wr=>∃k:Nat,k≤n∧iv= .int .i64 (k:Int)∧sv= .string (S (play [] (rs.take k)))∧Below w1.heap.size w1 wr) (fun _ iv _=>n-(intOf iv).toNat)
 case atStart=>exact⟨0,AS _,rfl,rfl,AI _ _⟩
 case round=>
  obtain⟨k,hk,rfl,rfl,hb⟩:=hrel
  have hbs:=hb.size
  by_cases hlt:k<n
  ·have g1:decide ((k:Int)<(n:Int))=true:=AG EE
   have g1':decide (k<n)=true:=AG hlt
   obtain⟨ad,rfl,hab,q0⟩:=A2t (HR.out.below hb) hlt
   obtain⟨R,hR⟩:∃R,R=S (rs.getD k []):=⟨_,rfl⟩
   rw[←hR] at q0
   obtain⟨h0,hRs,hcase⟩:=B5T HG.out (by rw[HN.out];exact hlt) hR
   have htl:=B1N HG.out k
   clear hR
   rcases hcase with⟨hb0,hp⟩|⟨hb0,l,hl,he,hsc,hp⟩
   ·rw[B1h h0] at hb0
    have hp':S (play [] (rs.take (k+1)))=R.extract 1 R.size:=by rw[hp,S_L]
    have HP:=AA hp'
    clear hp hp'
    generalize S (play [] (rs.take k))=cur at*
    go_wp2_with fail
    go_roundw
    case rel=>exact⟨k+1,by omega,by go_num,by rw[HP.out],hb⟩
    case measure=>simp[intOf];omega
   ·rw[B1h h0] at hb0
    have hb1':R[0]'h0≠98:=by rw[hb0];decide
    have HP:Hid (S (play [] (rs.take (k+1)))=S (A0C (L (S (play [] (rs.take k)))) l)):=by unfold Hid;rw[hp,L_S]
    have HE:Hid (A0n (S (play [] (rs.take k))).size l=0):=by unfold Hid;rw[A0b];exact he
    have HSC:=AA hsc
    have HX:=AA hl
    have hxs:(R.extract 1 R.size).size≤1100:=by rw[Ak];omega
    have hB1:=hbA.trans (hb.mono hs1)
    have HMX:=HM.out _ hB1
    have hW0:=HW0.out
    clear hp he hsc hl
    generalize S (play [] (rs.take k))=cur at*
    go_wp2_with fail
    refine(B4q (R.extract 1 R.size) EE mx _ HMX EE).mono ?_
    rintro e w2 ⟨v2,out,ok,rfl,hans,hown2,hb2⟩
    rw[HX.out] at hans
    obtain rfl:=B8b HSC.out hans
    obtain⟨A2,c2,rfl,hnc2,hcm2,hrx2⟩:=A1e hown2
    have HO:=AA hrx2
    clear hans hown2 hrx2
    have hB2:=hb.trans (hb2.mono hbs)
    clear HMX
    go_wp2_with fail
    refine(A6v cur out A2 out.length c2 _ w2 HO.out (AD _) HE.out).mono ?_
    rintro e w3 ⟨rfl,hb3⟩
    have hB3:=hB2.trans (hb3.mono hB2.size)
    go_wp2_with fail
    go_roundw
    case rel=>exact⟨k+1,by omega,by go_num,by rw[HP.out],hB3⟩
    case measure=>simp[intOf];omega
  ·have hkn:k=n:=EE
   subst hkn
   have HT:Hid (A2x d=S (play [] (rs.take k))):=by unfold Hid;rw[HRD.out,←HN.out,BJ]
   generalize S (play [] (rs.take k))=cur at*
   have B1:=C1.out.below' hb
   have B2:=C2.out.below' hb
   have e0:=Blk.cell0 B1;have e1:=Blk.cell1 B1
   have d0:=Blk.cell0 B2;have d1:=Blk.cell1 B2;have d2:=Blk.cell2 B2
   have f0:=B2.frozen 0;have f1:=B2.frozen 1;have f2:=B2.frozen 2
   have hb3:=hbA.trans (hb.mono hs1)
   clear B1 B2
   go_wp2_with fail
   (apply bodyPost_ret;(simp[results,Tryz.results133,go_sem,d0,d1,d2];rfl);rfl)
   rw[HT.out]
   exact⟨rfl,Ds⟩
theorem B4I(tx d:ByteArray)(sf:Nat)(w:World):
 Calls Tryz.prog 67 #[.agg #[.string tx,.string d,.int .i64 (sf:Int)]] w fun e w'=>e= .returned (.agg #[.string tx,.string d,.int .i64 (d.size:Int)])∧Below w.heap.size w w':=by
 go_enter Tryz.func67,Tryz.ntmps67
 go_wp2_with fail
 (apply bodyPost_ret;(simp[results,Tryz.results67,go_sem];rfl);rfl)
 exact⟨rfl,Ds⟩
theorem B0x(tx d t:ByteArray)(sf:Nat)(w:World)(hd:d.size≤4000):
 Calls Tryz.prog 66 #[.agg #[.string tx,.string d,.int .i64 (sf:Int)],.string t] w fun e w'=>e= .returned (.tuple #[.agg #[.string (lsT tx d t),.string (lsD d t),.int .i64 (sf:Int)],.int .i64 (lsE d t)])∧Below w.heap.size w w':=by
 by_cases hz:200<t.size
 ·have HE:Hid (lsE d t=2):=by unfold Hid lsE;rw[if_pos hz]
  have HT:Hid (lsT tx d t=tx):=by unfold Hid lsT;rw[HE.out,if_neg EF]
  have HD:Hid (lsD d t=d):=by unfold Hid lsD;rw[HE.out,if_neg EF]
  rw[HE.out,HT.out,HD.out]
  go_enter Tryz.func66,Tryz.ntmps66
  go_wp2_with fail
  (apply bodyPost_ret;(simp[results,Tryz.results66,go_sem];rfl);rfl)
  exact⟨rfl,Ds⟩
 ·have HE:Hid (lsE d t=A0t d (recB t)):=by unfold Hid lsE;rw[if_neg hz]
  have HT:Hid (lsT tx d t=if A0t d (recB t)=0 then t else tx):=by unfold Hid lsT;rw[HE.out]
  have HD:Hid (lsD d t=if A0t d (recB t)=0 then appD d (recB t) else d):=by unfold Hid lsD;rw[HE.out]
  have HL:=AA (fun W=>A3A d (recB t) sf W hd)
  by_cases hq:A0t d (recB t)=0
  ·rw[Hid,hq] at HL HE HT HD
   rw[if_pos rfl] at HT HD
   have HL:=AA HL;have HE:=AA HE;have HT:=AA HT;have HD:=AA HD
   clear hq
   rw[HE.out,HT.out,HD.out]
   generalize appD d (recB t)=D' at*
   exact C0O
  ·have HDD:=AA (A6u hq)
   rw[Hid,if_neg hq] at HT HD
   rw[Hid,HDD.out] at HL
   have HL:=AA HL;have HT:=AA HT;have HD:=AA HD
   rw[HE.out,HT.out,HD.out]
   have g1:(A0t d (recB t) !=0)=true:=by simpa using hq
   generalize A0t d (recB t)=q at*
   clear hq
   exact C0O
theorem A7V(tx d:ByteArray)(sf:Nat)(keep:Int)(mx:Int)(w:World)(hk:LfOk tx d sf)(hm:w.cell? ⟨0,0,none⟩=some (.int .i64 mx))(hw0:0<w.heap.size):
 Calls Tryz.prog 69 #[.agg #[.string tx,.string d,.int .i64 (sf:Int)],.int .i64 keep] w fun e w'=>e= .returned (.tuple #[.agg #[.string (cfLT tx d sf keep),.string (craD d sf keep),.int .i64 (craF d sf keep:Nat)],.int .i64 (A0D d sf keep)])∧Below w.heap.size w w':=by
 have HM:Hid (∀W,Below w.heap.size w W→W.cell? ⟨0,0,none⟩=some (.int .i64 mx)):=fun W hb=>(hb.cell (p:=⟨0,0,none⟩) hw0).trans hm
 have HW0:=AA hw0
 have HL:=AA (fun W=>B0J d sf keep W hk.size hk.safe)
 clear hm hw0
 by_cases hz:A0D d sf keep=0
 ·have hk2:=hk.crash hz
  have HD:=AA hk2.size
  have HG:=AA hk2.reads.2
  have HT:Hid (cfLT tx d sf keep=A2x (craD d sf keep)):=by unfold Hid cfLT;rw[if_pos hz]
  rw[HT.out]
  rw[Hid,hz] at HL
  have HL:=AA HL
  rw[hz]
  clear hk2 hz hk
  generalize craD d sf keep=d' at*
  generalize craF d sf keep=sf' at*
  go_enter Tryz.func69,Tryz.ntmps69
  go_wp2_with fail
  refine(HL.out _).mono ?_
  rintro e w1 ⟨rfl,hb1⟩
  have HC1:Hid (Blk w1 (w.heap.size+1) 80 #[.string ⟨#[]⟩,.string ⟨#[]⟩,.int .i64 0]):=by
   have:=Blk.below' (Blk.new_ (w.alloc (.cells #[.string tx,.string d,.int .i64 (sf:Int)] 80)) 80 #[.string ⟨#[]⟩,.string ⟨#[]⟩,.int .i64 0]) hb1
   rw[Ar] at this
   exact this
  have C0:=Blk.below' (Blk.alloc (Blk.new_ w 80 #[.string tx,.string d,.int .i64 (sf:Int)]) (.cells #[.string ⟨#[]⟩,.string ⟨#[]⟩,.int .i64 0] 80)) hb1
  have C1:=Blk.below' (Blk.new_ (w.alloc (.cells #[.string tx,.string d,.int .i64 (sf:Int)] 80)) 80 #[.string ⟨#[]⟩,.string ⟨#[]⟩,.int .i64 0]) hb1
  rw[Ar] at C1
  have hbA:Below w.heap.size w w1:=A0h Ds hb1
  have n0:w.heap.size<w1.heap.size:=Blk.lt C0
  have n1:w.heap.size+1<w1.heap.size:=Blk.lt C1
  have m0:w.heap.size≠w1.heap.size:=EE
  have m1:w.heap.size+1≠w1.heap.size:=EE
  have e0:=Blk.cell0 C0;have e1:=Blk.cell1 C0;have e2:=Blk.cell2 C0
  have d0:=Blk.cell0 C1;have d1:=Blk.cell1 C1;have d2:=Blk.cell2 C1
  have f0:=C1.frozen 0;have f1:=C1.frozen 1;have f2:=C1.frozen 2
  clear C0 C1 hb1
  clear e0 e1 e2
  have hbB:Below w.heap.size w (w1.alloc (.cells #[.string d',.int .i64 (sf':Int)] 78)):=Ds
  have hbC:Below w1.heap.size w1 (w1.alloc (.cells #[.string d',.int .i64 (sf':Int)] 78)):=Ds
  have hmx:=HM.out _ hbB
  have hw2:0<(w1.alloc (.cells #[.string d',.int .i64 (sf':Int)] 78)).heap.size:=AO HW0.out hbB.size
  have HRR:=AA (B4H d' sf' mx _ HD.out HG.out hmx hw2)
  clear hmx hw2
  go_wp2_with fail
  refine HRR.out.mono ?_
  rintro e w2 ⟨rfl,hb2⟩
  have hbD:=A0h hbB hb2
  have hbE:=A0h hbC hb2
  have C1:Blk w2 (w.heap.size+1) 80 #[.string ⟨#[]⟩,.string ⟨#[]⟩,.int .i64 0]:=Blk.below HC1.out hbE n1
  clear d0 d1 d2 f0 f1 f2 hbE hbC
  have d0:=Blk.cell0 C1;have d1:=Blk.cell1 C1;have d2:=Blk.cell2 C1
  have f0:=C1.frozen 0;have f1:=C1.frozen 1;have f2:=C1.frozen 2
  clear C1
  go_wp2_with fail
  (apply bodyPost_ret;(simp[results,Tryz.results69,go_sem,d0,d1,d2];rfl);rfl)
  exact⟨rfl,Ds⟩
 ·have HT:Hid (cfLT tx d sf keep=tx):=by unfold Hid cfLT;rw[if_neg hz]
  rw[HT.out]
  have g1:(A0D d sf keep !=0)=true:=by simpa using hz
  obtain⟨e1,e2⟩:=A3W hz
  rw[Hid,e1,e2] at HL
  have HL:=AA HL
  rw[e1,e2]
  clear e1 e2 hz hk
  generalize A0D d sf keep=q at*
  go_enter Tryz.func69,Tryz.ntmps69
  go_wp2_with fail
  refine(HL.out _).mono ?_
  rintro e w1 ⟨rfl,hb1⟩
  have C0:=Blk.below' (Blk.alloc (Blk.new_ w 80 #[.string tx,.string d,.int .i64 (sf:Int)]) (.cells #[.string ⟨#[]⟩,.string ⟨#[]⟩,.int .i64 0] 80)) hb1
  have C1:=Blk.below' (Blk.new_ (w.alloc (.cells #[.string tx,.string d,.int .i64 (sf:Int)] 80)) 80 #[.string ⟨#[]⟩,.string ⟨#[]⟩,.int .i64 0]) hb1
  rw[Ar] at C1
  have hbA:Below w.heap.size w w1:=A0h Ds hb1
  have n0:w.heap.size<w1.heap.size:=Blk.lt C0
  have n1:w.heap.size+1<w1.heap.size:=Blk.lt C1
  have m0:w.heap.size≠w1.heap.size:=EE
  have m1:w.heap.size+1≠w1.heap.size:=EE
  have e0:=Blk.cell0 C0;have e1:=Blk.cell1 C0;have e2:=Blk.cell2 C0
  have d0:=Blk.cell0 C1;have d1:=Blk.cell1 C1;have d2:=Blk.cell2 C1
  have f0:=C1.frozen 0;have f1:=C1.frozen 1;have f2:=C1.frozen 2
  clear C0 C1 hb1
  go_wp2_with fail
  (apply bodyPost_ret;(simp[results,Tryz.results69,go_sem,d0,d1,d2,n1];rfl);rfl)
  exact⟨rfl,Ds⟩
theorem B0W(tx d:ByteArray)(sf:Nat)(stop:Int)(w:World)(hk:LfOk tx d sf)(hs:stop=0∨stop=3):
 Calls Tryz.prog 68 #[.agg #[.string tx,.string d,.int .i64 (sf:Int)],.int .i64 stop] w fun e w'=>e= .returned (.tuple #[.agg #[.string tx,.string (newD tx),.int .i64 ((newD tx).size:Int)],.int .i64 0])∧Below w.heap.size w w':=by
 have HO:=AA (fun W=>B2o tx W hk.text)
 clear hk
 generalize hns:(newD tx).size=ns at*
 clear hns
 generalize newD tx=D' at*
 rcases hs with rfl|rfl
 all_goals
  go_enter Tryz.func68,Tryz.ntmps68
  go_wp2_with fail
  refine(HO.out _).mono ?_
  rintro e w1 ⟨rfl,hb1⟩
  have C0:=Blk.below' (Blk.alloc (Blk.new_ w 80 #[.string tx,.string d,.int .i64 (sf:Int)]) (.cells #[.string ⟨#[]⟩,.string ⟨#[]⟩,.int .i64 0] 80)) hb1
  have C1:=Blk.below' (Blk.new_ (w.alloc (.cells #[.string tx,.string d,.int .i64 (sf:Int)] 80)) 80 #[.string ⟨#[]⟩,.string ⟨#[]⟩,.int .i64 0]) hb1
  rw[Ar] at C1
  have hbA:Below w.heap.size w w1:=A0h Ds hb1
  have n0:w.heap.size<w1.heap.size:=Blk.lt C0
  have n1:w.heap.size+1<w1.heap.size:=Blk.lt C1
  have m0:w.heap.size≠w1.heap.size:=EE
  have m1:w.heap.size+1≠w1.heap.size:=EE
  have e0:=Blk.cell0 C0;have e1:=Blk.cell1 C0;have e2:=Blk.cell2 C0
  have d0:=Blk.cell0 C1;have d1:=Blk.cell1 C1;have d2:=Blk.cell2 C1
  have f0:=C1.frozen 0;have f1:=C1.frozen 1;have f2:=C1.frozen 2
  clear C0 C1 hb1
  clear e0 e1 e2
  go_wp2_with fail
  (apply bodyPost_ret;(simp[results,Tryz.results68,go_sem,d0,d1,d2];rfl);rfl)
  exact⟨rfl,Ds⟩
theorem B0X(tx d:ByteArray)(sf:Nat)(stop:Int)(mx:Int)(w:World)(hk:LfOk tx d sf)(hm:w.cell? ⟨0,0,none⟩=some (.int .i64 mx))(hw0:0<w.heap.size)(hs:stop=1∨stop=2):
 Calls Tryz.prog 68 #[.agg #[.string tx,.string d,.int .i64 (sf:Int)],.int .i64 stop] w fun e w'=>e= .returned (.tuple #[.agg #[.string (cfLT tx d sf 0),.string (craD d sf 0),.int .i64 (craF d sf 0:Nat)],.int .i64 0])∧Below w.heap.size w w':=by
 have HO:=AA (fun W (hb:Below w.heap.size w W)=>A7V tx d sf 0 mx W hk ((hb.cell (p:=⟨0,0,none⟩) hw0).trans hm) (AO hw0 hb.size))
 rw[Hid,A3d hk.safe] at HO
 have HO:=AA HO
 clear hk hm hw0
 generalize cfLT tx d sf 0=t' at*
 generalize craD d sf 0=D' at*
 generalize craF d sf 0=ns at*
 rcases hs with rfl|rfl
 all_goals
  go_enter Tryz.func68,Tryz.ntmps68
  go_wp2_with fail
  refine(HO.out _ Ds).mono ?_
  rintro e w1 ⟨rfl,hb1⟩
  have C0:=Blk.below' (Blk.alloc (Blk.new_ w 80 #[.string tx,.string d,.int .i64 (sf:Int)]) (.cells #[.string ⟨#[]⟩,.string ⟨#[]⟩,.int .i64 0] 80)) hb1
  have C1:=Blk.below' (Blk.new_ (w.alloc (.cells #[.string tx,.string d,.int .i64 (sf:Int)] 80)) 80 #[.string ⟨#[]⟩,.string ⟨#[]⟩,.int .i64 0]) hb1
  rw[Ar] at C1
  have hbA:Below w.heap.size w w1:=A0h Ds hb1
  have n0:w.heap.size<w1.heap.size:=Blk.lt C0
  have n1:w.heap.size+1<w1.heap.size:=Blk.lt C1
  have m0:w.heap.size≠w1.heap.size:=EE
  have m1:w.heap.size+1≠w1.heap.size:=EE
  have e0:=Blk.cell0 C0;have e1:=Blk.cell1 C0;have e2:=Blk.cell2 C0
  have d0:=Blk.cell0 C1;have d1:=Blk.cell1 C1;have d2:=Blk.cell2 C1
  have f0:=C1.frozen 0;have f1:=C1.frozen 1;have f2:=C1.frozen 2
  clear C0 C1 hb1
  clear e0 e1 e2
  go_wp2_with fail
  (apply bodyPost_ret;(simp[results,Tryz.results68,go_sem,d0,d1,d2];rfl);rfl)
  exact⟨rfl,Ds⟩
theorem B0Y(tx d:ByteArray)(sf:Nat)(stop:Int)(w:World)(h0:stop≠0)(h1:stop≠1)(h2:stop≠2)(h3:stop≠3):
 Calls Tryz.prog 68 #[.agg #[.string tx,.string d,.int .i64 (sf:Int)],.int .i64 stop] w fun e w'=>e= .returned (.tuple #[.agg #[.string tx,.string d,.int .i64 (sf:Int)],.int .i64 1])∧Below w.heap.size w w':=by
 have g0:(stop==0)=false:=by simpa using h0
 have g1:(stop==1)=false:=by simpa using h1
 have g2:(stop==2)=false:=by simpa using h2
 have g3:(stop==3)=false:=by simpa using h3
 clear h0 h1 h2 h3
 go_enter Tryz.func68,Tryz.ntmps68
 go_wp2_with fail
 (apply bodyPost_ret;(simp[results,Tryz.results68,go_sem];rfl);rfl)
 exact⟨rfl,Ds⟩
theorem B4J(tx d:ByteArray)(sf:Nat)(stop:Int)(mx:Int)(w:World)(hk:LfOk tx d sf)(hm:w.cell? ⟨0,0,none⟩=some (.int .i64 mx))(hw0:0<w.heap.size):
 Calls Tryz.prog 68 #[.agg #[.string tx,.string d,.int .i64 (sf:Int)],.int .i64 stop] w fun e w'=>e= .returned (.tuple #[.agg #[.string (pkT tx d sf stop),.string (pkD tx d sf stop),.int .i64 (pkF tx d sf stop:Nat)],.int .i64 (pkE stop)])∧Below w.heap.size w w':=by
 unfold pkT pkD pkF pkE
 by_cases h1:stop=0∨stop=3
 ·rw[if_neg EE,if_pos h1,if_pos h1,if_pos EE];exact B0W tx d sf stop w hk h1
 ·rw[if_neg h1,if_neg h1]
  by_cases h2:stop=1∨stop=2
  ·rw[if_pos h2,if_pos h2,if_pos h2,if_pos EE];exact B0X tx d sf stop mx w hk hm hw0 h2
  ·rw[if_neg h2,if_neg h2,if_neg h2,if_neg EE];exact B0Y tx d sf stop w EE EE EE (by omega)
end Go.Proofs.YtplgghjdidmcfaaGreatDoor
