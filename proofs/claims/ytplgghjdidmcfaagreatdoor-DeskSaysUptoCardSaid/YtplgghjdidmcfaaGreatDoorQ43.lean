/- Written anew, smaller, by a program of our own out of our texts. No condition of our own. -/
import Derived.Test.YtplgghjdidmcfaaGreatDoorQ37
set_option maxRecDepth 100000
set_option maxHeartbeats 16000000
set_option linter.all false
namespace Go.Proofs.YtplgghjdidmcfaaGreatDoor
open Go.RowKit
theorem ra_Cut(s:ByteArray)(A:Option Addr)(c:Nat)(rs:List Rc)(K:Nat→Prop)(w:World)(hf:RaOk w K A c rs s)(a t u:List UInt8)(hq:wds (L s)=kCut::[a,t,u]):
 Calls Tryz.prog 49 #[.agg #[.slice A rs.length c],.string s,.func (.func 10) #[] #[]] w (A2h w K rs (kCut::[a,t,u])):=by
 have q6:((S kCut).toList==[110,97,109,101,115])=false:=by rw[eqk];decide
 have q7:((S kCut).toList==[101,100,105,116])=false:=by rw[eqk];decide
 have HLX:Hid (L (S kCut)=kCut):=L_S _
 have hxs:(S kCut).size≤4096:=by rw[A0b];decide
 obtain⟨r,hr9⟩:∃r,[a,t,u]=r:=⟨_,rfl⟩
 have hdn:dkN kCut=(2,4):=by decide
 have sa:(S a).size≤4096:=by rw[A0b];exact AQ (A0p (s:=s) (x:=a) (by rw[hq];simp)).2 hf.s
 have st:(S t).size≤4096:=by rw[A0b];exact AQ (A0p (s:=s) (x:=t) (by rw[hq];simp)).2 hf.s
 have su:(S u).size≤4096:=by rw[A0b];exact AQ (A0p (s:=s) (x:=u) (by rw[hq];simp)).2 hf.s
 rw[hr9] at hq⊢
 have HWD:=AA (fun W A c (hr:Rd W W.heap.size 1 A r.length (strCells r)) (ht:TabI W)=>A1s kCut r A c W hr EF (fun x hx=>(A0p (s:=s) (x:=x) (by rw[hq];simp[hx])).1) ht)
 have hka:=A1S (x:=kCut) (by rw[hdn];decide) r.length
 rw[if_pos hka,AC (by simpa using hka)] at HWD
 have hm9:r.length=3:=by rw[←hr9];rfl
 have HM:=AA hm9
 have HFK:Hid (fK kCut=some 2):=by unfold Hid;decide
 have HFM:Hid (fM kCut=some 3):=by unfold Hid;decide
 have HNK:Hid (¬(kCut=A0O∧r=[])):=fun h=>absurd h.1 EF
 have HKN:Hid ((dkN kCut).1≠0):=by rw[Hid,hdn];decide
 have hs9:dkS kCut [a,t,u]=(dig3 t&&dig3 u):=by unfold dkS;rw[hdn];rfl
 have HSD:Hid (dkS kCut r=(dig3 t&&dig3 u)):=by rw[Hid,←hr9,hs9]
 obtain⟨i0,hi0,hz0,hz1,hz2⟩:=info_parts A1E
 obtain⟨tl,htl9⟩:∃tl,[t,u]=tl:=⟨_,rfl⟩
 have HTL9:=AA htl9
 have hlen9:tl.length=2:=by rw[←htl9];rfl
 have HBAD:Hid (∀k (h:k<tl.length),dig3 tl[k]=false→dkS kCut r=false):=by
  subst htl9
  intro k h h2
  rw[HSD.out]
  match k,h with
  |0,_=>rw[show dig3 t=false from h2];rfl
  |1,_=>rw[show dig3 u=false from h2,Cj]
 have HGOOD:Hid (tl.all dig3=true→dkS kCut r=true):=by
  subst htl9
  intro h
  rw[HSD.out]
  simpa using h
 have HTS:Hid (∀k (h:k<tl.length),(S tl[k]).size≤4096):=by
  subst htl9
  intro k h
  match k,h with
  |0,_=>exact st
  |1,_=>exact su
 have HXDA:Hid (∀A5,dkD kCut r A5=⟨2,0,S a,⟨#[]⟩,A5,1,1,[⟨(numV t:Int),(numV u:Int),[]⟩]⟩):=by
  intro A5
  rw[←hr9]
  have hed:dkEd kCut [a,t,u]=⟨(numV t:Int),(numV u:Int),[]⟩:=by unfold dkEd;simp[A0u,kCut]
  unfold dkD
  rw[hdn,hed]
  rfl
 have HR9:=AA hr9
 clear hr9 hdn hs9 htl9 st su
 have HFF:=AA (fun W=>A1h s W hf.s)
 have HWE:=AA (fun x (h:x∈wds (L s))=>A0p h)
 have HWL:=AA (A1M s)
 have hss:=hf.s
 have HT:=AA hf.t
 have HO:=AA hf.o
 have HNM:=AA hf.n
 have HKW:=AA hf.k
 have HMX:=AA hf.m
 have HG0:=AA hf.g
 obtain⟨N,hN⟩:∃N,rs.length=N:=⟨_,rfl⟩
 have HRN:=AA (RaAt.new_ hf.r N)
 have HNN:=AA hN
 rw[hN]
 clear hf hN
 rw[hq] at HFF HWE HWL
 clear hq
 rw[hm9] at HWD
 clear hss hka hm9
 obtain⟨X0,hX9⟩:∃X0,S kCut=X0:=⟨_,rfl⟩
 rw[hX9] at q6 q7 HLX hxs HWD
 have HX09:=AA hX9
 clear hX9
 have hmm:=@run_makeMap Tryz.prog
 go_enter Tryz.func49,Tryz.ntmps49
 go_wp2_with fail
 generalize(w.alloc (.cells #[.slice A N c] 29)).alloc (.cells #[.slice none 0 0] 29)=w1 at*
 refine(HFF.out _).mono ?_
 rintro e w2 ⟨g2,rfl,ho2,hb2⟩
 have HRA:=AA (HRN.out.below hb2)
 have HRQ:=AA (Rd.of_own ho2)
 clear HFF ho2 hb2 HRN
 have HRT:=AA (A2s HRQ.out)
 have c0:w2.cell? ⟨g2,0,none⟩=some (.string X0):=by
  exact B9D
 clear HRQ
 rw[AM]
 rw[HM.out] at HRT⊢
 go_wp2_with fail
 go_quiet (fail)
 go_wp2_with fail
 have HRA2:=AA (HRA.out.below (A0d (AI _ _) nq))
 have HRT2:=AA ((HRT.out.drewN nq).more (A0d (B:=w2.heap.size) (AI _ w2) nq).size)
 refine(HWD.out _ _ _ HRT2.out (A0c HT.out HRA2.out.b)).mono ?_
 rintro e wq ⟨rfl,hbq⟩
 have HRA:=AA (HRA2.out.below hbq)
 have HRT:=AA ((HRT2.out.below hbq).more hbq.size)
 clear HRA2 HRT2 c0 hbq
 have hcs:=A1N HRT.out
 rw[←HR9.out] at hcs
 have hgl:g2<wq.heap.size:=by
  exact B9G
 have q1:=hcs 0 EH
 simp only[Ae,An] at q1
 have HTC:Hid (∀k (h:k<tl.length),wq.cell? ⟨g2,2+k,none⟩=some (.string (S tl[k]))):=by
  have h9:=HTL9.out
  subst h9
  intro k h
  match k,h with
  |0,_=>exact hcs 1 EH
  |1,_=>exact hcs 2 EH
 clear hcs
 obtain⟨X1,hX1⟩:∃X1,S a=X1:=⟨_,rfl⟩
 rw[hX1] at q1 sa HXDA
 clear hX1
 have hm:=MapSI.made wq
 have hb5:Below wq.heap.size wq (wq.alloc (.map #[] 0)):=(AI _ _).alloc (AD _) _
 go_wp2_with ((first|(refine MapSI.insert hm (by unfold maxLen;decide) _ (by unfold maxLen;decide) _ EF rfl _ _ _ rfl rfl rfl rfl ?_;intro w9 hm1 hg1;have hb6:=hb5.grown hg1 hb5.size (fun k hk=>by cases hk;first|exact AD _|exact hbx))|(have hb7:=hb5.alloc hb5.size (.map #[] 0);have hbx:=hb5.size;refine MapSI.insert (MapSI.made w9) (by unfold maxLen;decide) _ (by unfold maxLen;decide) _ EF rfl _ _ _ rfl rfl rfl rfl ?_;intro w9 hm1 hg1;have hb6:=hb7.grown hg1 hb7.size (fun k hk=>by cases hk;exact hbx);clear hb7));clear hm hb5 hg1;have hm:=hm1;have hb5:=hb6;clear hm1 hb6;(first|(have hlk:=(MapSI.ext hm (g:=fK) (fun t=>rfl)).look X0 (by unfold maxLen;omega);rw[HLX.out,HFK.out] at hlk)|(have hlm:=(MapSI.ext hm (g:=fM) (fun t=>rfl)).look X0 (by unfold maxLen;omega);rw[HLX.out,HFM.out] at hlm)|skip);(first|clear y1|skip);(first|clear y2|skip);(first|clear z3 z3l z2l|skip);have z3:=(HRA.out.below hb5).h.cell0;have z3l:=(HRA.out.below hb5).h.lt;have z2l:g2<w9.heap.size:=AO hgl hb5.size;have y1:=(hb5.cell (p:=⟨g2,1,none⟩) hgl).trans q1;skip)
 clear hm
 have hrz:=(HRA.out.below hb5).below ((AI w9.heap.size w9).alloc (AD _) (.cells #[.int .i64 2,.int .i64 0,.string X1,.string ⟨#[]⟩,.slice none 0 0] 32))
 have hbz:Below wq.heap.size wq (w9.alloc (.cells #[.int .i64 2,.int .i64 0,.string X1,.string ⟨#[]⟩,.slice none 0 0] 32)):=hb5.alloc hb5.size _
 have hBX:Blk (w9.alloc (.cells #[.int .i64 2,.int .i64 0,.string X1,.string ⟨#[]⟩,.slice none 0 0] 32)) w9.heap.size 32 #[.int .i64 2,.int .i64 0,.string X1,.string ⟨#[]⟩,.slice none 0 0]:=Blk.new_ _ _ _
 generalize w9.alloc (.cells #[.int .i64 2,.int .i64 0,.string X1,.string ⟨#[]⟩,.slice none 0 0] 32)=wz at*
 have HRZ:=AA hrz
 have HBZ:=AA hbz
 have HBX:=AA hBX
 have HLN:=AA hlen9
 have HGD:=AA hb5.size
 clear hrz hbz hBX hlk hlm z3 z3l z2l y1 hb5 hlen9
 generalize w9.heap.size=gd at*
 go_loopw [16,95] (fun xv iv wr=>∃k:Nat,k≤2∧iv= .int .i64 (k:Int)∧Hid ((tl.take k).all dig3=true)∧Hid (wr.ownsRow wz.heap.size 3 1 xv ((tl.take k).map fun t=>(numV t:Int)).length (ints ((tl.take k).map fun t=>(numV t:Int))))∧Below wz.heap.size wz wr) (fun _ iv _=>2-(intOf iv).toNat)
 case atStart=>exact⟨0,by decide,rfl,rfl,Ad _ _ _ _,AI _ _⟩
 case round=>
  obtain⟨k,hk,rfl,HAL,HOWN,hb⟩:=hrel
  have hbs:=hb.size
  by_cases hlt:k<2
  ·have hkl:k<tl.length:=by rw[HLN.out];exact hlt
   have g7:decide ((k:Int)<2)=true:=AG EE
   have g7':decide (k<2)=true:=AG hlt
   have y2:=(hb.cell (p:=⟨g2,2+k,none⟩) (AO hgl HBZ.out.size)).trans ((HBZ.out.cell (p:=⟨g2,2+k,none⟩) hgl).trans (HTC.out k hkl))
   have HDG:=AA (fun W=>A3Q (S tl[k]) W (by have:=HTS.out k hkl;omega))
   have HSN9:Hid (tl.take (k+1)=tl.take k++ [tl[k]]):=Aa hkl
   have HBK:=AA (HBAD.out k hkl)
   obtain⟨x,hx9⟩:∃x,tl[k]=x:=⟨_,rfl⟩
   rw[hx9] at y2 HDG HSN9 HBK
   rw[L_S] at HDG
   clear hx9 hkl
   cases hdg:dig3 x with
   |false=>
    have HSB:=AA (HBK.out hdg)
    have HEN:Hid (S (dkT (rs.map Rc.s) (kCut::r))=S (errB 12)∧dkP (rs.map Rc.s) (kCut::r)=rs.map Rc.s):=by
     exact B9K
    rw[hdg] at HDG
    clear HBK HSN9 HOWN HAL
    go_wp2_with fail
    refine(HDG.out _).mono ?_
    rintro e wv ⟨rfl,hbv⟩
    have HRA:=AA ((HRZ.out.below hb).below hbv)
    clear HDG y2
    go_wp2_with fail
    have hC3:=HRA.out.h.cell0
    have z6:=HRA.out.o.cell0;have z6f:=HRA.out.o.frozen 0
    obtain⟨F1,HF1,hcell10⟩:=cells1 ⟨w.heap.size,0,none⟩ (.slice A N c)
    refine EB [(0,true),(1,false),(2,false),(3,true)] HF1 ?_
    intro hne1
    simp only[A0i,AT,AP,AR]
    repeat(first|((first|refine Dt ?_|refine Du ?_);intro K hK;go_big_quiet_op;go_big_quiet_on)|((first|refine Dv ?_|refine Dw ?_);simp only[Act.put,AB,AE,AF]))
    have HRD:=AA (HRA.out.below ((AI _ _).drew))
    refine A0a ?_
    go_wp2_with fail
    refine(A2f 12 EF EF HT.out HRD.out.b).mono ?_
    rintro e wa ⟨rfl,hba⟩
    have HRB:=AA (HRD.out.below hba)
    have hC3a:=HRB.out.h.cell0
    go_wp2_with fail
    refine ED HF1 ?_ hC3a
    repeat(first|((first|refine Dt ?_|refine Du ?_);intro K hK;go_big_quiet_op;go_big_quiet_on)|((first|refine Dv ?_|refine Dw ?_);simp only[Act.put,AB,AE,AF]))
    have y6:=HRB.out.o.cell0;have y6f:=HRB.out.o.frozen 0
    have hng:w.heap.size≠w.heap.size+1:=EE
    have hng2:¬w.heap.size+1=w.heap.size:=EE
    refine A0a ?_
    go_wp2_with fail
    have hC3b:(wa.setCell ⟨w.heap.size+1,0,none⟩ (.slice A N c)).cell? ⟨w.heap.size,0,none⟩=some (.slice A N c):=(HRB.out.h.far hng _).cell0
    refine ED HF1 ?_ hC3b
    repeat(first|((first|refine Dt ?_|refine Du ?_);intro K hK;go_big_quiet_op;go_big_quiet_on)|((first|refine Dv ?_|refine Dw ?_);simp only[Act.put,AB,AE,AF]))
    refine A0g ?_
    clear HF1 hC3 hC3a hC3b z6 z6f y6 y6f hcell10 hne1
    have zz:=(HRB.out.o.set_ 0 (.slice A N c)).cell0
    go_wp2_with fail
    (apply bodyPost_ret;(simp[results,Tryz.results49,go_sem,zz];rfl);rfl)
    exact A3F HRB.out HNN.out HEN.out.1 HEN.out.2
   |true=>
    rw[hdg,A4J hdg] at HDG
    have HAL2:Hid ((tl.take (k+1)).all dig3=true):=by
     exact B9M
    have HMP:Hid ((tl.take (k+1)).map (fun t=>(numV t:Int))=(tl.take k).map (fun t=>(numV t:Int))++ [(numV x:Int)]):=by rw[Hid,HSN9.out,BM];rfl
    have hlt9:((tl.take k).map fun t=>(numV t:Int)).length≤2:=by rw[AW];exact AQ (Cq _ _) EE
    clear HBK HSN9 HAL hdg
    generalize((numV x:Nat):Int)=V at*
    obtain⟨qq,hqq⟩:∃qq,(tl.take k).map (fun t=>(numV t:Int))=qq:=⟨_,rfl⟩
    rw[hqq] at HOWN HMP hlt9
    clear hqq
    go_wp2_with fail
    refine(HDG.out _).mono ?_
    rintro e wv ⟨rfl,hbv⟩
    have hb8:=hb.trans (hbv.mono hbs)
    have HOWN8:=AA (A1l HOWN.out hbv)
    clear HDG y2 HOWN
    go_wp2_with (at_builtin;go_must (refine A0r rfl _ _ _ rfl wz.heap.size 3 i0 _ 1 8 Tryz.underlying91 hi0 hz0 hz1 hz2 rfl EE _ qq.length (ints qq) rfl (BE (w:=wv) HOWN8.out _) ⟨wv.heap.size,0,none⟩ 1 1 [.int .i64 (V)] rfl rfl (BL _ _ _) (by simp[Value.oneCell']) EE EE (by have:=(hb8).size;simp at this⊢;omega) ?_);intro v6 w6 hown6 hg6 hb6;have hb6':=((hb8).alloc (hb8).size _).trans hb6)
    clear hg6 hb6
    go_roundw
    case rel=>
     exact B9I
    case measure=>simp[intOf];omega
  ·obtain rfl:k=2:=EE
   have g7:decide ((2:Int)<2)=false:=by decide
   have htk:tl.take 2=tl:=AX (by rw[HLN.out];exact AD _)
   rw[htk] at HAL HOWN
   have HSN:Hid (¬dkS kCut r=false):=by rw[Hid,HGOOD.out HAL.out];decide
   have hm9:tl.map (fun t=>(numV t:Int))=[(numV t:Int),(numV u:Int)]:=by rw[←HTL9.out];rfl
   rw[hm9] at HOWN
   obtain⟨gx,capx,hxv,_,hxl⟩:=DT HOWN.out EH
   subst hxv
   have x0c:=HOWN.out.cells (g:=gx) rfl 0 _ rfl
   rw[show(⟨gx,0,none⟩:Addr).add 0=⟨gx,0,none⟩ from rfl] at x0c
   have x1c:=HOWN.out.cells (g:=gx) rfl 1 _ rfl
   rw[show(⟨gx,0,none⟩:Addr).add 1=⟨gx,1,none⟩ from rfl] at x1c
   have HBR:=AA (HBX.out.below' hb)
   have HZR:=AA ((HRZ.out.below hb).h)
   have HXL9:=AA hxl
   have hng1:¬gd=w.heap.size:=(HBR.out.neH HZR.out EF)
   have hng2:¬w.heap.size=gd:=fun e=>hng1 e.symm
   have HBW:Hid (Below wq.heap.size wq wr):=HBZ.out.trans (hb.mono HBZ.out.size)
   have gx0:(0:Nat)<2:=by decide
   have gx1:(1:Nat)<2:=by decide
   simp only[AM,BK,An,Nat.reduceAdd] at*
   generalize((numV t:Nat):Int)=V0 at*
   generalize((numV u:Nat):Int)=V1 at*
   go_wp2_with fail
   obtain⟨F1,HF1,hcell10,hcell11⟩:=cells2 ⟨gx,0,none⟩ (.int .i64 V0) ⟨gx,1,none⟩ (.int .i64 V1)
   refine EB [(0,true),(1,true),(2,true),(3,true),(4,true),(5,true),(6,true),(7,false),(8,true),(9,false)] HF1 ?_
   intro hne1
   simp only[A0i,AT,AP,AR]
   repeat(first|((first|refine Dt ?_|refine Du ?_);intro K hK;go_big_quiet_op;go_big_quiet_on)|((first|refine Dv ?_|refine Dw ?_);simp only[Act.put,AB,AE,AF]))
   refine A0a ?_
   go_wp2_with fail
   have hbE:Below wr.heap.size wr (wr.alloc (.cells #[.int .i64 V0,.int .i64 V1,.string ⟨#[]⟩] 95)).drew:=((AI _ _).alloc (AD _) _).drew
   have hBE:Blk (wr.alloc (.cells #[.int .i64 V0,.int .i64 V1,.string ⟨#[]⟩] 95)).drew wr.heap.size 95 #[.int .i64 V0,.int .i64 V1,.string ⟨#[]⟩]:=Blk.new_ wr _ _
   have hsE:(wr.alloc (.cells #[.int .i64 V0,.int .i64 V1,.string ⟨#[]⟩] 95)).drew.heap.size=wr.heap.size+1:=by simp
   have hgr:gd<wr.heap.size:=HBR.out.lt
   generalize(wr.alloc (.cells #[.int .i64 V0,.int .i64 V1,.string ⟨#[]⟩] 95)).drew=we at*
   have y0:=(hbE.cell (p:=⟨gx,0,none⟩) HXL9.out).trans x0c
   have y1:=(hbE.cell (p:=⟨gx,1,none⟩) HXL9.out).trans x1c
   refine ED HF1 ?_ ⟨y0,y1⟩
   repeat(first|((first|refine Dt ?_|refine Du ?_);intro K hK;go_big_quiet_op;go_big_quiet_on)|((first|refine Dv ?_|refine Dw ?_);simp only[Act.put,AB,AE,AF]))
   have HBD:=AA (HBR.out.below' hbE)
   have HZD:=AA (HZR.out.below' hbE)
   have d4:=HBD.out.cell 4;have f4:=HBD.out.frozen 4
   have hgx9:=(DD HOWN.out gx rfl).1
   have hgd9:=HBX.out.lt
   have hgxd:gx≠gd:=EE
   have hgde:gd≠wr.heap.size:=EE
   have hwge:w.heap.size≠wr.heap.size:=by have:=HZR.out.lt;omega
   have hBD4:Blk (we.setCell ⟨gd,4,none⟩ (.slice (some ⟨wr.heap.size,0,none⟩) 1 1)) gd 32 #[.int .i64 2,.int .i64 0,.string X1,.string ⟨#[]⟩,.slice (some ⟨wr.heap.size,0,none⟩) 1 1]:=HBD.out.set_ 4 _
   have hBE4:Blk (we.setCell ⟨gd,4,none⟩ (.slice (some ⟨wr.heap.size,0,none⟩) 1 1)) wr.heap.size 95 #[.int .i64 V0,.int .i64 V1,.string ⟨#[]⟩]:=hBE.far (Ne.symm hgde) _
   have hZD4:Blk (we.setCell ⟨gd,4,none⟩ (.slice (some ⟨wr.heap.size,0,none⟩) 1 1)) w.heap.size 29 #[.slice A N c]:=HZD.out.far (fun e=>hng2 e) _
   have hBW4:Below wq.heap.size wq (we.setCell ⟨gd,4,none⟩ (.slice (some ⟨wr.heap.size,0,none⟩) 1 1)):=BY (HBW.out.trans (hbE.mono HBW.out.size)) HGD.out _
   have y0b:=(CJ (w:=we) (a:=⟨gx,0,none⟩) (Bp we ⟨gd,4,none⟩ (.slice (some ⟨wr.heap.size,0,none⟩) 1 1) gx hgxd)).trans y0
   have y1b:=(CJ (w:=we) (a:=⟨gx,1,none⟩) (Bp we ⟨gd,4,none⟩ (.slice (some ⟨wr.heap.size,0,none⟩) 1 1) gx hgxd)).trans y1
   refine A0a ?_
   go_wp2_with fail
   refine ED HF1 ?_ ⟨y0b,y1b⟩
   repeat(first|((first|refine Dt ?_|refine Du ?_);intro K hK;go_big_quiet_op;go_big_quiet_on)|((first|refine Dv ?_|refine Dw ?_);simp only[Act.put,AB,AE,AF]))
   refine A0g ?_
   clear HF1 y0 y1 y0b y1b x0c x1c d4 f4 hBE hbE hsE hgxd hgx9 hgd9 hcell10 hcell11 hne1 HBD HZD HBR HOWN hxl HXL9
   generalize we.setCell ⟨gd,4,none⟩ (.slice (some ⟨wr.heap.size,0,none⟩) 1 1)=wf at*
   have HBW4:=AA hBW4
   have d0:=hBD4.cell 0;have d1:=hBD4.cell 1;have d2:=hBD4.cell 2;have d3:=hBD4.cell 3;have d4:=hBD4.cell 4
   have z3:=hZD4.cell0
   have HXD:=AA (HXDA.out (some ⟨wr.heap.size,0,none⟩))
   have hgq:wq.heap.size≤wr.heap.size:=by have:=HGD.out;omega
   go_wp2_with fail
   have hrz:RaAt w wf K A N c rs:=HRA.out.below HBW4.out
   have hrd:Rd wf wf.heap.size 3 (some ⟨wr.heap.size,0,none⟩) 1 (A0f [⟨V0,V1,[]⟩]):=Rd.of_heap hBE4 hBE4.lt rfl
   clear d0 d1 d2 d3 d4 z3 hBE4
   generalize wf=wy at*
   have HD1:Hid (X1.size≤9223372036854775807):=by unfold Hid;omega
   have HD2:Hid ((⟨#[]⟩:ByteArray).size≤9223372036854775807):=AS _
   have HD3:=AA hrd
   have HD4:Hid (1≤9223372036854775807):=by unfold Hid;omega
   clear hrd
   have HRZ:=AA hrz
   clear hrz
   have hdo:=A2l A c rs ⟨2,0,X1,⟨#[]⟩,some ⟨wr.heap.size,0,none⟩,1,1,[⟨V0,V1,[]⟩]⟩ (KK w K) wy ⟨HRZ.out.r,A4r HKW.out HRZ.out.h.lt HRZ.out.o.lt,HO.out,HD1.out,HD2.out,HD3.out,HD4.out,A0c HT.out HRZ.out.b,⟨_,(HRZ.out.b.cell (p:=⟨0,0,none⟩) HG0.out).trans HMX.out.choose_spec⟩,AO HG0.out HRZ.out.b.size⟩
   rw[HNN.out] at hdo
   unfold A1v Dd.val at hdo
   simp only at hdo
   refine hdo.mono ?_
   clear hdo
   rintro e wd ⟨A',c',rs',rfl,hm',hr',hb'⟩
   have z3:=(HRZ.out.below hb').h.cell0;have z3f:=(HRZ.out.below hb').h.frozen 0
   obtain⟨N',hN'⟩:∃N',rs'.length=N':=⟨_,rfl⟩
   rw[hN']
   have HN9:=AA hN'
   have HRA3:=AA (HRZ.out.turn (N':=N') hb' hr')
   have HM9:=AA hm'
   have HEA:=AA (A3T (P:=rs.map Rc.s) (some ⟨wr.heap.size,0,none⟩) HNK.out HKN.out HSN.out)
   rw[HXD.out] at HEA
   have HTL:=AA (A1o HO.out ⟨2,0,X1,⟨#[]⟩,some ⟨wr.heap.size,0,none⟩,1,1,[⟨V0,V1,[]⟩]⟩)
   have HRG:=AA (A2D (rs.map Rc.s) ⟨2,0,X1,⟨#[]⟩,some ⟨wr.heap.size,0,none⟩,1,1,[⟨V0,V1,[]⟩]⟩)
   clear hN' hm' hr' hb' HRZ HRA
   obtain⟨E,hE9⟩:∃E,hsE (rs.map Rc.s) ⟨2,0,X1,⟨#[]⟩,some ⟨wr.heap.size,0,none⟩,1,1,[⟨V0,V1,[]⟩]⟩=E:=⟨_,rfl⟩
   obtain⟨T,hT9⟩:∃T,hsT (rs.map Rc.s) ⟨2,0,X1,⟨#[]⟩,some ⟨wr.heap.size,0,none⟩,1,1,[⟨V0,V1,[]⟩]⟩=T:=⟨_,rfl⟩
   exact B9F
end Go.Proofs.YtplgghjdidmcfaaGreatDoor
