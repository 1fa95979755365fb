/- Written anew, smaller, by a program of our own out of our texts. No condition of our own. -/
import Derived.Test.YtplgghjdidmcfaaGreatDoorQ18
import Derived.Test.YtplgghjdidmcfaaGreatDoorQ24
import Derived.Test.YtplgghjdidmcfaaGreatDoorQ21
import Derived.Laws.IdiomCopy
import Derived.Lib.SliceRun
import Derived.Lib.AppendZeros
set_option maxRecDepth 100000
set_option maxHeartbeats 16000000
set_option linter.all false
namespace Go.Proofs.YtplgghjdidmcfaaGreatDoor
open Go.RowKit
theorem C0N{P:Prop}(h:P:=by
 go_wp2_with fail
 obtain⟨F1,hFd⟩:∃F:World→Prop,F=fun w'=>True:=⟨_,rfl⟩
 have HF1:=AA hFd
 clear hFd
 refine EB [(0,true),(1,true),(2,true),(3,true),(4,true),(5,true),(6,false),(7,true)] HF1 ?_
 intro hne1
 simp only[A0i,AT,AP,AR]
 repeat(first|((first|refine Dt ?_|refine Du ?_);intro K hK;go_big_quiet_op;go_big_quiet_on)|((first|refine Dv ?_|refine Dw ?_);simp only[Act.put,AB,AE,AF]))
 refine A0a ?_
 go_wp2_with (at_builtin;go_must (refine Lib.wpList_append_run _ rfl _ _ _ _ rfl _ _ rfl rfl _ _ HR6.out ?_))
 refine B4e (by rw[HF1.out];trivial) ?_
 repeat(first|((first|refine Dt ?_|refine Du ?_);intro K hK;go_big_quiet_op;go_big_quiet_on)|((first|refine Dv ?_|refine Dw ?_);simp only[Act.put,AB,AE,AF]))
 refine A0g ?_
 go_wp2_with fail
 go_ret
 exact⟨some ad,c,rfl,rfl,HO7.out,HG7.out⟩
 ):P:=h
theorem C0W{P:Prop}(h:P:=by
 have h9:=HL5.out
 unfold lsT lsD at h9
 rw[if_neg hz,if_neg hz] at h9
 have hc9:Chg w w6 (foot p):=HC5.out.trans (hc6.monoH (K':=fun k=>EdK p.ge p.vB p.vO k∨w.heap.size≤k) fun k _ hk=>HFR.out k hk) fun k hk hlt=>by
  rcases hk with hk|hk
  ·exact .inl hk
  ·omega
 refine⟨⟨p.s,p.ge,p.gf,p.gl,vB2,vO2⟩,⟨h6,h9.edited HE5.out hc6,HP.out.bf,HP.out.bl⟩,hc9, ?_,(HPN.out hz).symm,rfl,rfl⟩
 rintro k (hk|hk)
 ·rcases A7E (w:=w5) fB fO (AD _) hk with h|h
  ·rcases HFR.out k h with h|h
   ·exact .inl (.inl h)
   ·exact .inr h
  ·exact .inr (AQ HC5.out.size h)
 ·exact .inl (.inr hk)
 ):P:=h
theorem C1h{P:Prop}(h:P:=by
 injection hv with hv
 subst hv
 obtain⟨a2,e2,_,hc2⟩:=hrd.2 EE
 cases e2
 have hjl:=(Av.1 hj).1
 rw[hnw,BU] at hj
 by_cases hci:c=i+1
 ·rw[hnl,show N-(i+1)=0 by omega] at hjl
  omega
 ·rw[if_neg hci] at hA2
  rw[←hA2,A2A]
  exact hc2 _ u hj
 ):P:=h
theorem C1q{P:Prop}(h:P:=by
 have HZE:=AA hze
 clear hze
 go_wp2_with fail
 refine HUX.out.mono ?_
 rintro e w6 ⟨rfl,vB2,vO2,h6,hc6,fB2,fO2⟩
 have HF6:=AA (HF.out w6 vB2 vO2 h6 hc6 fB2 fO2)
 go_wp2_with fail
 go_ret
 exact⟨A0S HZE.out.symm,HF6.out⟩
 ):P:=h
theorem C1t{P:Prop}(h:P:=by
 rw[AK,AL EE,Option.getD_some,←Aa EE,Nat.sub_add_cancel EE,BJ]
 ):P:=h
theorem C1z{P:Prop}(h:P:=by
 rintro e w3 ⟨rfl,hb3⟩
 have HF:=AA (HSELF.out w3 (Chg.ofB (A0h hbD hb3)) (HP.out.below (A0h hbD hb3)))
 go_wp2_with fail
 go_ret
 exact⟨rfl,HF.out⟩
 ):P:=h
theorem C1C{P:Prop}(h:P:=by
 rintro k (hk|rfl|rfl)
 ·exact .inl (.inl hk)
 ·exact .inl (.inr (.inl rfl))
 ·rcases hgl with h|h
  ·exact .inl (.inr (.inr h))
  ·exact .inr h
 ):P:=h
theorem C1P{P:Prop}(h:P:=by
 rw[show(((i+1:Nat)):Int)=(i:Int)+1 by omega] at h9
 rw[h9,←hA2,show N-(i+1)=M-i by omega]
 split<;>rfl
 ):P:=h
theorem C1W{P:Prop}(h:P:=by
 rintro k (hk|hk)
 ·rcases HFR.out k hk with h|h
  ·exact .inl (.inl h)
  ·exact .inr h
 ·exact .inl (.inr hk)
 ):P:=h
section
variable {w w' w3:World} {base:Nat} {p:Pc}
theorem A7E{g:Nat}{vB vO vB' vO':Value}(fB:A3P w3 vB' vB vO)(fO:A3P w3 vO' vB vO)(hs:w.heap.size≤w3.heap.size){k:Nat}(hk:EdK g vB' vO' k):EdK g vB vO k∨w.heap.size≤k:=by
 rcases hk with hk|hk|hk
 ·exact .inl (.inl hk)
 ·rcases fB k hk with h|h|h
  ·exact .inl (.inr (.inl h))
  ·exact .inl (.inr (.inr h))
  ·exact .inr (AQ hs h)
 ·rcases fO k hk with h|h|h
  ·exact .inl (.inr (.inl h))
  ·exact .inl (.inr (.inr h))
  ·exact .inr (AQ hs h)
theorem Gbs.foot(h:Gbs w w' [p.gf,p.gl]):Chg w w' (foot p):=(Chg.gbsH h).monoH fun _ _ hk=> .inr (by simpa using hk)
theorem A8i(h:Chg w w' (EdK p.ge p.vB p.vO)):Chg w w' (foot p):=h.monoH fun _ _ hk=> .inl hk
theorem Chg.thenK{K:Nat→Prop}{w1 w2 w3:World}(h:Chg w1 w2 K)(h2:Chg w2 w3 K):Chg w1 w3 K:=h.trans h2 fun _ hk _=>hk
theorem Chg.at_{K:Nat→Prop}(hc:Chg w w' K){q:Addr}{u:Value}(hq:q.block<w.heap.size)(hK:¬K q.block)(h:w.cell? q=some u):w'.cell? q=some u:=(CJ (w:=w) (hc.block q.block hq hK)).trans h
end
theorem B6p(s:Es)(h:¬s.back.length=0):A1K (A1J s)=s:=by
 obtain⟨t,b,o⟩:=s
 simp only at h
 unfold A1J
 rw[if_neg h]
 unfold A1K
 rw[if_neg EH]
 have hb:b.take (b.length-1)++ [b.getD (b.length-1) []]=b:=by
  exact C1t
 show(⟨(o++ [t]).getD ((o++ [t]).length-1) [],b.take (b.length-1)++ [b.getD (b.length-1) []],(o++ [t]).take ((o++ [t]).length-1)⟩:Es)=⟨t,b,o⟩
 rw[hb]
 simp
theorem B6q(s:Es)(h:¬s.onward.length=0):A1J (A1K s)=s:=by
 obtain⟨t,b,o⟩:=s
 simp only at h
 unfold A1K
 rw[if_neg h]
 unfold A1J
 rw[if_neg EH]
 have ho:o.take (o.length-1)++ [o.getD (o.length-1) []]=o:=by
  exact C1t
 show(⟨(b++ [t]).getD ((b++ [t]).length-1) [],(b++ [t]).take ((b++ [t]).length-1),o.take (o.length-1)++ [o.getD (o.length-1) []]⟩:Es)=⟨t,b,o⟩
 rw[ho]
 simp
structure PgTo (w w':World) (base:Nat) (p:Pc) (s':Ps) (p':Pc):Prop where
 at_:PgAt w' base p'
 chg:Chg w w' (foot p)
 new_:∀k,foot p' k→foot p k∨w.heap.size≤k
 s:p'.s=s'
 ge:p'.ge=p.ge
 gf:p'.gf=p.gf
theorem A8S(p:Pc)(pa:Addr)(base:Nat)(l:List Ed)(A:Option Addr)(m c:Nat)(w:World)(h:PgAt w base p)(hk:PsOk p.s)(hb:base≤w.heap.size)(hpl:pa.block<w.heap.size)(hpo:¬foot p pa.block)(c1:w.cell? ⟨pa.block,pa.off+1,none⟩=some (.pointer (some ⟨p.ge,0,none⟩)))(c2:w.cell? ⟨pa.block,pa.off+2,none⟩=some (.pointer (some ⟨p.gf,0,none⟩)))(hr:∀W,Chg w W (foot p)→Rd W W.heap.size 3 A m (A0f l))(hm:m≤9223372036854775807)(ht:TabI w):
 Calls Tryz.prog 22 #[.pointer (some pa),.slice A m c] w fun e w'=>e= .returned (.int .i64 (edPE p.s l))∧∃p',PgTo w w' base p (edP p.s l) p':=by
 have hlen:=Rd.rec_len A2v EE (hr w (Chg.reflH _ _))
 have HR:=AA hr
 have HP:=AA h
 have HK:=AA hk
 have HSELF:Hid (edPE p.s l≠0→∀W,Chg w W (foot p)→PgAt W base p→∃p',PgTo w W base p (edP p.s l) p'):=fun he W hc hp=>⟨p,hp,hc,fun k hk=> .inl hk,by unfold edP;rw[if_neg he],rfl,rfl⟩
 by_cases h0:m=0
 ·have HE:Hid (edPE p.s l=5):=by unfold Hid edPE;rw[if_pos EE]
  have HS:=HSELF.out (by rw[HE.out];decide) w (Chg.reflH _ _) h
  have HS:=AA HS
  rw[HE.out]
  have g1:((m:Int)==0)=true:=by rw[At];omega
  have g1':(m==0)=true:=by rw[At];exact h0
  clear hlen h hk hr HSELF c1 c2 hpo
  go_enter Tryz.func22,Tryz.ntmps22
  go_wp2_with fail
  go_ret
  exact⟨rfl,HS.out⟩
 have g1:((m:Int)==0)=false:=by rw[AH];omega
 have g1':(m==0)=false:=by rw[AH];exact h0
 have HPE:Hid (edPE p.s l=lfE p.s.tx p.s.d l):=by unfold Hid edPE;rw[if_neg EE]
 have HLF:=AA (B4o p.gf p.gl p.s.tx p.s.d p.s.sf l A m c w.heap.size w h.lf hk.lf (hr w (Chg.reflH _ _)) (AD _) hm ht)
 by_cases hz:lfE p.s.tx p.s.d l=0
 ·have hz5:edPE p.s l=0:=HPE.out.trans hz
  obtain⟨_,_,_,h3,h4,h5⟩:=B0l hz5
  have HPZ:=AA hz5
  have HDO:Hid (∀W,Chg w W (foot p)→EdSt W base p.ge p.s.es p.vB p.vO→_):=fun W hc he=>edDoS base p.ge p.s.es p.vB p.vO W he (AQ hb hc.size) hk.es l A m c W.heap.size (hr W hc) (AD _) hm h4
  have HES:=AA h5
  have HPP:Hid (edP p.s l={p.s with tx:=lfT p.s.tx p.s.d l,d:=lfD p.s.tx p.s.d l,back:=(p.s.back++ [L p.s.tx]).drop (p.s.back.length+1-30),onward:=[]}):=by unfold Hid edP;rw[if_pos hz5]
  rw[Hid,hz] at HLF
  have HLF:=AA HLF
  rw[HPZ.out]
  clear hlen h hk hr HSELF hz hz5 h3 h4 h5
  go_enter Tryz.func22,Tryz.ntmps22
  go_wp2_with fail
  refine HLF.out.mono ?_
  rintro e w3 ⟨rfl,hL3,hg3⟩
  have hc3:Chg w w3 (foot p):=Gbs.foot hg3
  have hE3:=HP.out.ed.leafed HP.out.lf hg3
  have c1':=hc3.at_ (q:=⟨pa.block,pa.off+1,none⟩) hpl hpo c1
  have HL3:=AA hL3
  have HC3:=AA hc3
  have HG3:=AA (HDO.out w3 hc3 hE3)
  have HE3:=AA hE3
  clear hL3 hg3 hc3 hE3 HLF HDO c1 c2
  go_wp2_with fail
  refine HG3.out.mono ?_
  rintro e w4 ⟨rfl,vB',vO',hE4,hc4,fB,fO⟩
  have HF:Hid (∃p',PgTo w w4 base p (edP p.s l) p'):=by
   refine⟨⟨edP p.s l,p.ge,p.gf,p.gl,vB',vO'⟩,⟨?_, ?_,HP.out.bf,HP.out.bl⟩,HC3.out.thenK (A8i hc4), ?_,rfl,rfl,rfl⟩
   ·show EdSt w4 base p.ge (edP p.s l).es vB' vO'
    rw[←HES.out];exact hE4
   ·have:=HL3.out.edited HE3.out hc4
    show LeafAt w4 p.gf p.gl (edP p.s l).tx (edP p.s l).d (edP p.s l).sf
    rw[HPP.out];exact this
   ·rintro k (hk|hk)
    ·rcases A7E (w:=w) fB fO HC3.out.size hk with h|h
     ·exact .inl (.inl h)
     ·exact .inr h
    ·exact .inl (.inr hk)
  go_wp2_with fail
  go_ret
  exact⟨rfl,HF.out⟩
 ·have g2:(lfE p.s.tx p.s.d l !=0)=true:=by rw[Be];exact hz
  have HT:Hid (lfT p.s.tx p.s.d l=p.s.tx):=by unfold Hid lfT;rw[if_neg hz]
  have HD:Hid (lfD p.s.tx p.s.d l=p.s.d):=by unfold Hid lfD;rw[if_neg hz]
  rw[Hid,HT.out,HD.out] at HLF
  have HLF:=AA HLF
  have HN:Hid (edPE p.s l≠0):=by rw[Hid,HPE.out];exact hz
  rw[HPE.out]
  clear hlen h hk hr hz
  generalize lfE p.s.tx p.s.d l=z at*
  go_enter Tryz.func22,Tryz.ntmps22
  go_wp2_with fail
  refine HLF.out.mono ?_
  rintro e w3 ⟨rfl,hL3,hg3⟩
  have HF:=AA (HSELF.out HN.out w3 (Gbs.foot hg3) ⟨HP.out.ed.leafed HP.out.lf hg3,hL3,HP.out.bf,HP.out.bl⟩)
  go_wp2_with fail
  go_ret
  exact⟨rfl,HF.out⟩
theorem B4E(p:Pc)(pa:Addr)(base:Nat)(w:World)(h:PgAt w base p)(hk:PsOk p.s)(hb:base≤w.heap.size)(hpl:pa.block<w.heap.size)(hpo:¬foot p pa.block)(c1:w.cell? ⟨pa.block,pa.off+1,none⟩=some (.pointer (some ⟨p.ge,0,none⟩)))(c2:w.cell? ⟨pa.block,pa.off+2,none⟩=some (.pointer (some ⟨p.gf,0,none⟩))):
 Calls Tryz.prog 24 #[.pointer (some pa),.bool true] w fun e w'=>e= .returned (.int .i64 (unPE p.s))∧∃p',PgTo w w' base p (unP p.s) p':=by
 have HOK2:EsOk (A1J p.s.es):=hk.es.undo
 have HP:=AA h
 have HK:=AA hk
 have hno:p.s.es.back.length+p.s.es.onward.length≤1000:=AQ hk.es.n EE
 have HNO:=AA hno
 clear hno
 by_cases h0:p.s.back.length=0
 ·have HE:Hid (unPE p.s=4):=by unfold Hid unPE;rw[if_pos h0]
  have HH0:Hid (p.s.es.back.length=0):=h0
  have HSELF:Hid (∀W,Chg w W (foot p)→PgAt W base p→∃p',PgTo w W base p (unP p.s) p'):=fun W hc hp=>⟨p,hp,hc,fun k hk=> .inl hk,by unfold unP;rw[if_neg (by rw[HE.out];decide)],rfl,rfl⟩
  rw[HE.out]
  clear h hk h0
  go_enter Tryz.func24,Tryz.ntmps24
  go_wp2_with fail
  go_quiet (fail)
  have hbD:=A0d (AI w.heap.size w) nq
  generalize w.drewN nq=wd at*
  go_wp2_with fail
  refine(B8R base p.ge p.s.es p.vB p.vO wd (HP.out.ed.below hbD) HH0.out).mono ?_
  exact C1z
 ·have HE:Hid (unPE p.s=lsE p.s.d (unT p.s)):=by unfold Hid unPE;rw[if_neg h0]
  have HH0:Hid (0<p.s.es.back.length):=Nat.pos_of_ne_zero h0
  have HTX:Hid (S (A1J p.s.es).text=unT p.s):=by
   unfold Hid A1J
   rw[if_neg (show¬p.s.es.back.length=0 from h0)]
   rfl
  have Hundo_redo:=AA (B6p p.s.es h0)
  have HOT:Hid (0<(A1J p.s.es).onward.length):=by
   unfold Hid A1J
   rw[if_neg (show¬p.s.es.back.length=0 from h0)]
   simp
  have HNO2:Hid ((A1J p.s.es).back.length+(A1J p.s.es).onward.length≤1000):=AQ HOK2.n EE
  have HLS:=AA (fun W (hL:LeafAt W p.gf p.gl p.s.tx p.s.d p.s.sf)=>B0g p.gf p.gl p.s.tx p.s.d (unT p.s) p.s.sf W hL hk.lf)
  have HPP:Hid (unPE p.s=0→(unP p.s).es=A1J p.s.es∧unP p.s={p.s with tx:=unT p.s,d:=lsD p.s.d (unT p.s),back:=(A1J p.s.es).back,onward:=(A1J p.s.es).onward}):=fun hz=>by
   unfold unP A1J
   rw[if_pos hz,if_neg (show¬p.s.es.back.length=0 from h0)]
   refine⟨?_,rfl⟩
   show(⟨L (unT p.s),_,_⟩:Es)=⟨_,_,_⟩
   unfold unT
   rw[L_S]
   rfl
  have HPN:Hid (unPE p.s≠0→unP p.s=p.s):=fun hz=>by unfold unP;rw[if_neg hz]
  rw[HE.out]
  rw[HE.out] at HPP HPN
  clear h hk h0
  go_enter Tryz.func24,Tryz.ntmps24
  go_wp2_with fail
  go_quiet (fail)
  have hbD:=A0d (AI w.heap.size w) nq
  generalize w.drewN nq=wd at*
  go_wp2_with fail
  refine(B3D base p.ge p.s.es p.vB p.vO wd (HP.out.ed.below hbD) HH0.out (AQ hb hbD.size) HNO.out).mono ?_
  rintro e w3 ⟨rfl,vB',vO',hE3,hc3,fB,fO⟩
  have hC3:Chg w w3 (foot p):=(Chg.ofB hbD).thenK (A8i hc3)
  have hL3:=(HP.out.lf.below hbD).edited (HP.out.ed.below hbD) hc3
  have k1:=hC3.at_ (q:=⟨pa.block,pa.off+1,none⟩) hpl hpo c1
  have k2:=hC3.at_ (q:=⟨pa.block,pa.off+2,none⟩) hpl hpo c2
  have hpl3:pa.block<w3.heap.size:=AO hpl hC3.size
  have HC3:=AA hC3
  have HL3:=AA hL3
  have HE3:=AA hE3
  have HFR:Hid (∀k,EdK p.ge vB' vO' k→EdK p.ge p.vB p.vO k∨w.heap.size≤k):=fun k hk=>A7E (w:=w) fB fO hbD.size hk
  clear hC3 hL3 hE3 hc3 fB fO c1 c2
  go_wp2_with fail
  obtain⟨F1,HF1,hcell10,hcell11⟩:=cells2 ⟨pa.block,pa.off+1,none⟩ (.pointer (some ⟨p.ge,0,none⟩)) ⟨pa.block,pa.off+2,none⟩ (.pointer (some ⟨p.gf,0,none⟩))
  refine EB [(0,true),(1,true),(2,true),(3,true),(4,true),(5,true),(6,true),(7,true),(8,false),(9,false),(10,true)] HF1 ?_
  intro hne1
  simp only[A0i,AT,AP,AR]
  repeat(first|((first|refine Dt ?_|refine Du ?_);intro K hK;go_big_quiet_op;go_big_quiet_on)|((first|refine Dv ?_|refine Dw ?_);simp only[Act.put,AB,AE,AF]))
  refine A0a ?_
  go_wp2_with fail
  have hbd3:Below w3.heap.size w3 w3.drew:=Bl (AI _ _)
  have hTX:=A5d base p.ge (A1J p.s.es) vB' vO' w3.drew (HE3.out.below hbd3)
  rw[HTX.out] at hTX
  refine hTX.mono ?_
  rintro e w4 ⟨rfl,hb4⟩
  have hb34:=hbd3.trans (hb4.mono hbd3.size)
  have q1:=(hb34.cell (p:=⟨pa.block,pa.off+1,none⟩) hpl3).trans k1
  have q2:=(hb34.cell (p:=⟨pa.block,pa.off+2,none⟩) hpl3).trans k2
  have HL4:=AA (HL3.out.below hb34)
  have HE4:=AA (HE3.out.below hb34)
  have HC4:=AA (HC3.out.thenH hb34)
  have hpl4:pa.block<w4.heap.size:=AO hpl3 hb34.size
  clear hTX hb4 hb34
  go_wp2_with fail
  refine ED HF1 ?_ ⟨q1,q2⟩
  repeat(first|((first|refine Dt ?_|refine Du ?_);intro K hK;go_big_quiet_op;go_big_quiet_on)|((first|refine Dv ?_|refine Dw ?_);simp only[Act.put,AB,AE,AF]))
  refine A0a ?_
  go_wp2_with fail
  refine(HLS.out w4 HL4.out).mono ?_
  rintro e w5 ⟨rfl,hL5,hg5⟩
  have hC5:Chg w4 w5 (foot p):=Gbs.foot hg5
  have r1:=hC5.at_ (q:=⟨pa.block,pa.off+1,none⟩) hpl4 hpo q1
  have r2:=hC5.at_ (q:=⟨pa.block,pa.off+2,none⟩) hpl4 hpo q2
  have HE5:=AA (HE4.out.leafed HL4.out hg5)
  have HL5:=AA hL5
  have HC5:=AA (HC4.out.thenK hC5)
  clear hL5 hg5 hC5
  go_wp2_with fail
  refine ED HF1 ?_ ⟨r1,r2⟩
  repeat(first|((first|refine Dt ?_|refine Du ?_);intro K hK;go_big_quiet_op;go_big_quiet_on)|((first|refine Dv ?_|refine Dw ?_);simp only[Act.put,AB,AE,AF]))
  refine A0g ?_
  clear HF1 hcell10 hcell11 hne1 k1 k2 q1 q2 r1 r2
  by_cases hz:lsE p.s.d (unT p.s)=0
  ·obtain⟨hp1,hp2⟩:=HPP.out hz
   have HF:Hid (∃p',PgTo w w5 base p (unP p.s) p'):=by
    refine⟨⟨unP p.s,p.ge,p.gf,p.gl,vB',vO'⟩,⟨?_, ?_,HP.out.bf,HP.out.bl⟩,HC5.out, ?_,rfl,rfl,rfl⟩
    ·show EdSt w5 base p.ge (unP p.s).es vB' vO'
     rw[hp1];exact HE5.out
    ·have h9:=HL5.out
     unfold lsT at h9
     rw[if_pos hz] at h9
     show LeafAt w5 p.gf p.gl (unP p.s).tx (unP p.s).d (unP p.s).sf
     rw[hp2];exact h9
    ·exact C1W
   have HZZ:=AA hz
   rw[hz]
   clear hp1 hp2 hz
   go_wp2_with fail
   go_ret
   exact⟨A0S HZZ.out.symm,HF.out⟩
  ·have HF:Hid (∀w6 vB2 vO2,EdSt w6 base p.ge p.s.es vB2 vO2→Chg w5 w6 (EdK p.ge vB' vO')→A3P w5 vB2 vB' vO'→A3P w5 vO2 vB' vO'→∃p',PgTo w w6 base p (unP p.s) p'):=fun w6 vB2 vO2 h6 hc6 fB fO=>by
    exact C0W
   have HUS:=B3E base p.ge (A1J p.s.es) vB' vO' w5 HE5.out HOT.out (AQ hb HC5.out.size) HNO2.out
   rw[Hundo_redo.out] at HUS
   have g1:(lsE p.s.d (unT p.s) !=0)=true:=by rw[Be];exact hz
   have HUX:=AA HUS
   clear hz HUS HPP HPN HE HLS
   generalize hze:lsE p.s.d (unT p.s)=z at*
   exact C1q
theorem B2h(p:Pc)(pa:Addr)(base:Nat)(w:World)(h:PgAt w base p)(hk:PsOk p.s)(hb:base≤w.heap.size)(hpl:pa.block<w.heap.size)(hpo:¬foot p pa.block)(c1:w.cell? ⟨pa.block,pa.off+1,none⟩=some (.pointer (some ⟨p.ge,0,none⟩)))(c2:w.cell? ⟨pa.block,pa.off+2,none⟩=some (.pointer (some ⟨p.gf,0,none⟩))):
 Calls Tryz.prog 24 #[.pointer (some pa),.bool false] w fun e w'=>e= .returned (.int .i64 (rePE p.s))∧∃p',PgTo w w' base p (reP p.s) p':=by
 have HOK2:EsOk (A1K p.s.es):=hk.es.redo
 have HP:=AA h
 have HK:=AA hk
 have hno:p.s.es.back.length+p.s.es.onward.length≤1000:=AQ hk.es.n EE
 have HNO:=AA hno
 clear hno
 by_cases h0:p.s.onward.length=0
 ·have HE:Hid (rePE p.s=4):=by unfold Hid rePE;rw[if_pos h0]
  have HH0:Hid (p.s.es.onward.length=0):=h0
  have HSELF:Hid (∀W,Chg w W (foot p)→PgAt W base p→∃p',PgTo w W base p (reP p.s) p'):=fun W hc hp=>⟨p,hp,hc,fun k hk=> .inl hk,by unfold reP;rw[if_neg (by rw[HE.out];decide)],rfl,rfl⟩
  rw[HE.out]
  clear h hk h0
  go_enter Tryz.func24,Tryz.ntmps24
  go_wp2_with fail
  go_quiet (fail)
  have hbD:=A0d (AI w.heap.size w) nq
  generalize w.drewN nq=wd at*
  go_wp2_with fail
  refine(B8S base p.ge p.s.es p.vB p.vO wd (HP.out.ed.below hbD) HH0.out).mono ?_
  exact C1z
 ·have HE:Hid (rePE p.s=lsE p.s.d (reT p.s)):=by unfold Hid rePE;rw[if_neg h0]
  have HH0:Hid (0<p.s.es.onward.length):=Nat.pos_of_ne_zero h0
  have HTX:Hid (S (A1K p.s.es).text=reT p.s):=by
   unfold Hid A1K
   rw[if_neg (show¬p.s.es.onward.length=0 from h0)]
   rfl
  have Hredo_undo:=AA (B6q p.s.es h0)
  have HOT:Hid (0<(A1K p.s.es).back.length):=by
   unfold Hid A1K
   rw[if_neg (show¬p.s.es.onward.length=0 from h0)]
   simp
  have HNO2:Hid ((A1K p.s.es).back.length+(A1K p.s.es).onward.length≤1000):=AQ HOK2.n EE
  have HLS:=AA (fun W (hL:LeafAt W p.gf p.gl p.s.tx p.s.d p.s.sf)=>B0g p.gf p.gl p.s.tx p.s.d (reT p.s) p.s.sf W hL hk.lf)
  have HPP:Hid (rePE p.s=0→(reP p.s).es=A1K p.s.es∧reP p.s={p.s with tx:=reT p.s,d:=lsD p.s.d (reT p.s),back:=(A1K p.s.es).back,onward:=(A1K p.s.es).onward}):=fun hz=>by
   unfold reP A1K
   rw[if_pos hz,if_neg (show¬p.s.es.onward.length=0 from h0)]
   refine⟨?_,rfl⟩
   show(⟨L (reT p.s),_,_⟩:Es)=⟨_,_,_⟩
   unfold reT
   rw[L_S]
   rfl
  have HPN:Hid (rePE p.s≠0→reP p.s=p.s):=fun hz=>by unfold reP;rw[if_neg hz]
  rw[HE.out]
  rw[HE.out] at HPP HPN
  clear h hk h0
  go_enter Tryz.func24,Tryz.ntmps24
  go_wp2_with fail
  go_quiet (fail)
  have hbD:=A0d (AI w.heap.size w) nq
  generalize w.drewN nq=wd at*
  go_wp2_with fail
  refine(B3E base p.ge p.s.es p.vB p.vO wd (HP.out.ed.below hbD) HH0.out (AQ hb hbD.size) HNO.out).mono ?_
  rintro e w3 ⟨rfl,vB',vO',hE3,hc3,fB,fO⟩
  have hC3:Chg w w3 (foot p):=(Chg.ofB hbD).thenK (A8i hc3)
  have hL3:=(HP.out.lf.below hbD).edited (HP.out.ed.below hbD) hc3
  have k1:=hC3.at_ (q:=⟨pa.block,pa.off+1,none⟩) hpl hpo c1
  have k2:=hC3.at_ (q:=⟨pa.block,pa.off+2,none⟩) hpl hpo c2
  have hpl3:pa.block<w3.heap.size:=AO hpl hC3.size
  have HC3:=AA hC3
  have HL3:=AA hL3
  have HE3:=AA hE3
  have HFR:Hid (∀k,EdK p.ge vB' vO' k→EdK p.ge p.vB p.vO k∨w.heap.size≤k):=fun k hk=>A7E (w:=w) fB fO hbD.size hk
  clear hC3 hL3 hE3 hc3 fB fO c1 c2
  go_wp2_with fail
  obtain⟨F1,HF1,hcell10,hcell11⟩:=cells2 ⟨pa.block,pa.off+1,none⟩ (.pointer (some ⟨p.ge,0,none⟩)) ⟨pa.block,pa.off+2,none⟩ (.pointer (some ⟨p.gf,0,none⟩))
  refine EB [(0,true),(1,true),(2,true),(3,true),(4,true),(5,true),(6,true),(7,true),(8,false),(9,false),(10,true)] HF1 ?_
  intro hne1
  simp only[A0i,AT,AP,AR]
  repeat(first|((first|refine Dt ?_|refine Du ?_);intro K hK;go_big_quiet_op;go_big_quiet_on)|((first|refine Dv ?_|refine Dw ?_);simp only[Act.put,AB,AE,AF]))
  refine A0a ?_
  go_wp2_with fail
  have hbd3:Below w3.heap.size w3 w3.drew:=Bl (AI _ _)
  have hTX:=A5d base p.ge (A1K p.s.es) vB' vO' w3.drew (HE3.out.below hbd3)
  rw[HTX.out] at hTX
  refine hTX.mono ?_
  rintro e w4 ⟨rfl,hb4⟩
  have hb34:=hbd3.trans (hb4.mono hbd3.size)
  have q1:=(hb34.cell (p:=⟨pa.block,pa.off+1,none⟩) hpl3).trans k1
  have q2:=(hb34.cell (p:=⟨pa.block,pa.off+2,none⟩) hpl3).trans k2
  have HL4:=AA (HL3.out.below hb34)
  have HE4:=AA (HE3.out.below hb34)
  have HC4:=AA (HC3.out.thenH hb34)
  have hpl4:pa.block<w4.heap.size:=AO hpl3 hb34.size
  clear hTX hb4 hb34
  go_wp2_with fail
  refine ED HF1 ?_ ⟨q1,q2⟩
  repeat(first|((first|refine Dt ?_|refine Du ?_);intro K hK;go_big_quiet_op;go_big_quiet_on)|((first|refine Dv ?_|refine Dw ?_);simp only[Act.put,AB,AE,AF]))
  refine A0a ?_
  go_wp2_with fail
  refine(HLS.out w4 HL4.out).mono ?_
  rintro e w5 ⟨rfl,hL5,hg5⟩
  have hC5:Chg w4 w5 (foot p):=Gbs.foot hg5
  have r1:=hC5.at_ (q:=⟨pa.block,pa.off+1,none⟩) hpl4 hpo q1
  have r2:=hC5.at_ (q:=⟨pa.block,pa.off+2,none⟩) hpl4 hpo q2
  have HE5:=AA (HE4.out.leafed HL4.out hg5)
  have HL5:=AA hL5
  have HC5:=AA (HC4.out.thenK hC5)
  clear hL5 hg5 hC5
  go_wp2_with fail
  refine ED HF1 ?_ ⟨r1,r2⟩
  repeat(first|((first|refine Dt ?_|refine Du ?_);intro K hK;go_big_quiet_op;go_big_quiet_on)|((first|refine Dv ?_|refine Dw ?_);simp only[Act.put,AB,AE,AF]))
  refine A0g ?_
  clear HF1 hcell10 hcell11 hne1 k1 k2 q1 q2 r1 r2
  by_cases hz:lsE p.s.d (reT p.s)=0
  ·obtain⟨hp1,hp2⟩:=HPP.out hz
   have HF:Hid (∃p',PgTo w w5 base p (reP p.s) p'):=by
    refine⟨⟨reP p.s,p.ge,p.gf,p.gl,vB',vO'⟩,⟨?_, ?_,HP.out.bf,HP.out.bl⟩,HC5.out, ?_,rfl,rfl,rfl⟩
    ·show EdSt w5 base p.ge (reP p.s).es vB' vO'
     rw[hp1];exact HE5.out
    ·have h9:=HL5.out
     unfold lsT at h9
     rw[if_pos hz] at h9
     show LeafAt w5 p.gf p.gl (reP p.s).tx (reP p.s).d (reP p.s).sf
     rw[hp2];exact h9
    ·exact C1W
   have HZZ:=AA hz
   rw[hz]
   clear hp1 hp2 hz
   go_wp2_with fail
   go_ret
   exact⟨A0S HZZ.out.symm,HF.out⟩
  ·have HF:Hid (∀w6 vB2 vO2,EdSt w6 base p.ge p.s.es vB2 vO2→Chg w5 w6 (EdK p.ge vB' vO')→A3P w5 vB2 vB' vO'→A3P w5 vO2 vB' vO'→∃p',PgTo w w6 base p (reP p.s) p'):=fun w6 vB2 vO2 h6 hc6 fB fO=>by
    exact C0W
   have HUS:=B3D base p.ge (A1K p.s.es) vB' vO' w5 HE5.out HOT.out (AQ hb HC5.out.size) HNO2.out
   rw[Hredo_undo.out] at HUS
   have g1:(lsE p.s.d (reT p.s) !=0)=true:=by rw[Be];exact hz
   have HUX:=AA HUS
   clear hz HUS HPP HPN HE HLS
   generalize hze:lsE p.s.d (reT p.s)=z at*
   exact C1q
theorem EdSt.lowerH{w:World}{base B g:Nat}{s:Es}{vB vO:Value}(h:EdSt w B g s vB vO)(hb:base≤B):EdSt w base g s vB vO:=⟨h.blk,AQ hb h.lo,h.b.lower hb,h.o.lower hb,h.ap⟩
structure PgTo3 (w w':World) (base:Nat) (p:Pc) (s':Ps) (p':Pc):Prop where
 at_:PgAt w' base p'
 chg:Chg w w' (foot p)
 new_:∀k,foot p' k→foot p k∨w.heap.size≤k
 s:p'.s=s'
 gf:p'.gf=p.gf
theorem PgTo.to3{w w':World}{base:Nat}{p p':Pc}{s':Ps}(h:PgTo w w' base p s' p'):PgTo3 w w' base p s' p':=⟨h.at_,h.chg,h.new_,h.s,h.gf⟩
abbrev A1x(pa:Addr):Addr:=⟨pa.block,pa.off+1,none⟩
def Ends(pa:Addr)(p p':Pc)(w3 w':World):Prop:=(w'=w3∧p'.ge=p.ge)∨w'=w3.setCell (A1x pa) (.pointer (some ⟨p'.ge,0,none⟩))
theorem B4F(p:Pc)(pa:Addr)(base:Nat)(stop:Int)(w:World)(h:PgAt w base p)(hk:PsOk p.s)(hb:base≤w.heap.size)(hpl:pa.block<w.heap.size)(hpo:¬foot p pa.block)(hfr:w.frozen? (A1x pa)=false)(c1:w.cell? ⟨pa.block,pa.off+1,none⟩=some (.pointer (some ⟨p.ge,0,none⟩)))(c2:w.cell? ⟨pa.block,pa.off+2,none⟩=some (.pointer (some ⟨p.gf,0,none⟩))):
 Calls Tryz.prog 26 #[.pointer (some pa),.int .i64 stop] w fun e w'=>e= .returned (.int .i64 (pkE stop))∧∃p' w3,PgTo3 w w3 base p (paP p.s stop) p'∧Ends pa p p' w3 w':=by
 have HP:=AA h
 have HPA:=AA (B4r p.gf p.gl p.s.tx p.s.d p.s.sf stop w h.lf hk.lf)
 have HTZ:Hid ((pkT p.s.tx p.s.d p.s.sf stop).size≤200):=(hk.lf.pack stop).text
 clear h hk
 by_cases hz:pkE stop=0
 ·have HZ:=AA hz
  by_cases h0:stop=0
  ·subst h0
   have HPP:Hid (paP p.s 0={p.s with d:=pkD p.s.tx p.s.d p.s.sf 0,sf:=pkF p.s.tx p.s.d p.s.sf 0}):=by unfold Hid paP;rw[if_neg (fun e=>e.2 rfl)]
   have HPT:Hid (pkT p.s.tx p.s.d p.s.sf 0=p.s.tx):=A8c (fun e=>e.2 rfl)
   rw[HZ.out]
   clear hz
   go_enter Tryz.func26,Tryz.ntmps26
   go_wp2_with fail
   refine HPA.out.mono ?_
   rintro e w3 ⟨gl',rfl,hgl,hL3,hg3⟩
   rw[HPT.out] at hL3
   have HF:Hid (∃p' w4,PgTo3 w w4 base p (paP p.s 0) p'∧Ends pa p p' w4 w3):=by
    refine⟨⟨paP p.s 0,p.ge,p.gf,gl',p.vB,p.vO⟩,w3,⟨⟨?_, ?_,HP.out.bf, ?_⟩,Gbs.foot hg3, ?_,rfl,rfl⟩,.inl ⟨rfl,rfl⟩⟩
    ·show EdSt w3 base p.ge (paP p.s 0).es p.vB p.vO
     rw[HPP.out]
     exact HP.out.ed.leafed HP.out.lf hg3
    ·show LeafAt w3 p.gf gl' (paP p.s 0).tx (paP p.s 0).d (paP p.s 0).sf
     rw[HPP.out]
     exact hL3
    ·rcases hgl with rfl|hgl
     ·exact HP.out.bl
     ·exact AQ hb hgl
    ·exact C1C
   rw[HZ.out]
   clear hL3 hg3 hgl
   go_wp2_with fail
   go_ret
   exact⟨rfl,HF.out⟩
  ·have HPP:Hid (paP p.s stop=⟨p.s.nm,pkT p.s.tx p.s.d p.s.sf stop,pkD p.s.tx p.s.d p.s.sf stop,pkF p.s.tx p.s.d p.s.sf stop,[],[]⟩):=by unfold Hid paP;rw[if_pos ⟨hz,h0⟩]
   have g1:(stop !=0)=true:=by rw[Be];exact h0
   rw[HZ.out]
   clear hz h0
   unfold A4v at HPA
   generalize pkT p.s.tx p.s.d p.s.sf stop=tx' at*
   generalize pkD p.s.tx p.s.d p.s.sf stop=d' at*
   generalize pkF p.s.tx p.s.d p.s.sf stop=sf' at*
   go_enter Tryz.func26,Tryz.ntmps26
   go_wp2_with fail
   refine HPA.out.mono ?_
   rintro e w3 ⟨gl',rfl,hgl,hL3,hg3⟩
   have hC3:Chg w w3 (foot p):=Gbs.foot hg3
   have k1:=hC3.at_ (q:=⟨pa.block,pa.off+1,none⟩) hpl hpo c1
   have k2:=hC3.at_ (q:=⟨pa.block,pa.off+2,none⟩) hpl hpo c2
   have hpl3:pa.block<w3.heap.size:=AO hpl hC3.size
   have hfr3:w3.frozen? (A1x pa)=false:=(World.frozen?_of_block (w:=w) (a:=A1x pa) (hC3.block pa.block hpl hpo)).trans hfr
   have HC3:=AA hC3
   have HL3:=AA hL3
   have HGL:=AA hgl
   clear hC3 hL3 hg3 hgl c1 c2 hfr
   rw[HZ.out]
   go_wp2_with fail
   refine(A8C p.gf gl' tx' d' sf' w3 HL3.out).mono ?_
   rintro e w4 ⟨rfl,hb4⟩
   have q1:=(hb4.cell (p:=⟨pa.block,pa.off+1,none⟩) hpl3).trans k1
   have hfr4:=(hb4.frozen (p:=A1x pa) hpl3).trans hfr3
   have hpl4:pa.block<w4.heap.size:=AO hpl3 hb4.size
   go_wp2_with fail
   refine(A5U tx' HTZ.out w4).mono ?_
   rintro e w5 ⟨rfl,hE5,hb5⟩
   have r1:=(hb5.cell (p:=⟨pa.block,pa.off+1,none⟩) hpl4).trans q1
   have hfr5:w5.frozen? ⟨pa.block,pa.off+1,none⟩=false:=(hb5.frozen (p:=A1x pa) hpl4).trans hfr4
   have hb35:=A0h hb4 hb5
   have HF:Hid (∃p' w6,PgTo3 w w6 base p (paP p.s stop) p'∧Ends pa p p' w6 (w5.setCell ⟨pa.block,pa.off+1,none⟩ (.pointer (some ⟨w4.heap.size,0,none⟩)))):=by
    have hsz:w.heap.size≤w4.heap.size:=AQ HC3.out.size hb4.size
    refine⟨⟨paP p.s stop,w4.heap.size,p.gf,gl',.slice none 0 0,.slice none 0 0⟩,w5,⟨⟨?_, ?_,HP.out.bf, ?_⟩,HC3.out.thenH hb35, ?_,rfl,rfl⟩,.inr rfl⟩
    ·show EdSt w5 base w4.heap.size (paP p.s stop).es (.slice none 0 0) (.slice none 0 0)
     rw[HPP.out]
     exact hE5.lowerH (AQ hb hsz)
    ·show LeafAt w5 p.gf gl' (paP p.s stop).tx (paP p.s stop).d (paP p.s stop).sf
     rw[HPP.out]
     exact HL3.out.below hb35
    ·rcases HGL.out with rfl|hgl
     ·exact HP.out.bl
     ·exact AQ hb hgl
    ·rintro k ((rfl|hk|hk)|rfl|rfl)
     ·exact .inr hsz
     ·simp[Value.ownBlock] at hk
     ·simp[Value.ownBlock] at hk
     ·exact .inl (.inr (.inl rfl))
     ·rcases HGL.out with h|h
      ·exact .inl (.inr (.inr h))
      ·exact .inr h
   clear hE5 hb4 hb5 hb35 k1 k2 q1
   go_wp2_with fail
   go_ret
   exact⟨rfl,HF.out⟩
 ·have g1:(pkE stop !=0)=true:=by rw[Be];exact hz
  have HPP:=AA (B3I (s:=p.s) hz)
  have HS:Hid (pkT p.s.tx p.s.d p.s.sf stop=p.s.tx∧pkD p.s.tx p.s.d p.s.sf stop=p.s.d∧pkF p.s.tx p.s.d p.s.sf stop=p.s.sf):=by
   have hq:¬(0≤stop∧stop≤3):=fun e=>hz (by unfold pkE;rw[if_pos e])
   unfold Hid pkT pkD pkF
   rw[if_neg EE,if_neg EE,if_neg EE,if_neg EE,if_neg EE]
   exact⟨rfl,rfl,rfl⟩
  obtain⟨z,hze⟩:∃z,pkE stop=z:=⟨_,rfl⟩
  rw[hze] at g1
  have HZE:=AA hze
  clear hz hze
  go_enter Tryz.func26,Tryz.ntmps26
  go_wp2_with fail
  refine HPA.out.mono ?_
  rintro e w3 ⟨gl',rfl,hgl,hL3,hg3⟩
  rw[HS.out.1,HS.out.2.1,HS.out.2.2] at hL3
  have HF:Hid (∃p' w6,PgTo3 w w6 base p (paP p.s stop) p'∧Ends pa p p' w6 w3):=by
   refine⟨⟨p.s,p.ge,p.gf,gl',p.vB,p.vO⟩,w3,⟨⟨HP.out.ed.leafed HP.out.lf hg3,hL3,HP.out.bf, ?_⟩,Gbs.foot hg3, ?_,HPP.out.symm,rfl⟩,.inl ⟨rfl,rfl⟩⟩
   ·rcases hgl with rfl|hgl
    ·exact HP.out.bl
    ·exact AQ hb hgl
   ·exact C1C
  rw[HZE.out]
  clear hL3 hg3 hgl
  go_wp2_with fail
  go_ret
  exact⟨A0S HZE.out.symm,HF.out⟩
theorem A7l{α:Type}{ec:α→List Value}{m:Nat}(hec:∀x,(ec x).length=m){y:α}{j:Nat}(hj:j<m){u:Value}:∀(l:List α) (i:Nat) (x:α),l[i]? =some x→ec y=(ec x).set j u→(l.flatMap ec).set (i*m+j) u=(l.set i y).flatMap ec
 |[],i,x,h,_=>by simp at h
 |a::l,0,x,h,he=>by
  injection h with h
  subst h
  rw[AE,BI,BI,he,Nat.zero_mul,An,List.set_append_left _ _ (by rw[hec];exact hj)]
 |a::l,i+1,x,h,he=>by
  rw[AP] at h
  rw[AF,BI,BI,←A7l hec hj l i x h he,Ce _ _ (by rw[hec,CG];omega)]
  congr 2
  rw[hec,CG];omega
theorem Chg.setH(w:World)(q:Addr)(u:Value):Chg w (w.setCell q u) (fun k=>k=q.block):=⟨rfl,rfl,rfl,by simp[World.setCell],fun k _ hk=>Bp w q u k hk⟩
section
variable {w w' w3:World} {base gh:Nat} {v:Value} {ps:List Pc}
theorem HsAt.page1{ad:Addr}{n c:Nat}(h:HsAt w base gh (.slice (some ad) n c) ps){i:Nat}(hi:i<ps.length){p':Pc}{s':Ps}(hp:PgTo3 w w3 base ps[i] s' p')(hnm:s'.nm=ps[i].s.nm):
 HsAt (w3.setCell (A1x (ad.add (i*3))) (.pointer (some ⟨p'.ge,0,none⟩))) base gh (.slice (some ad) n c) (ps.set i p'):=by
 have hn:n=ps.length:=by
  obtain⟨A,c',hv,_⟩:=h.row.form
  injection hv with _ hv
 subst hn
 have hm:=Ac hi
 have hrow:OwnO w3 base 61 3 (.slice (some ad) ps.length c) ps.length (A1j ps):=h.row.chg hp.chg fun k hk=>h.offRow hm hk
 have hj:i*3+1<ps.length*3:=EE
 have hset:=(A0l hrow hj (.pointer (some ⟨p'.ge,0,none⟩))).1
 rw[A0k] at hset
 have hcl:(A1j ps).set (i*3+1) (.pointer (some ⟨p'.ge,0,none⟩))=A1j (ps.set i p'):=A7l B1T EE ps i ps[i] (AL hi) (by
  show [_,_,_]=[_,_,_]
  rw[hp.s,hp.gf,hnm])
 rw[hcl] at hset
 have hrk:∀k,k=(A1x (ad.add (i*3))).block→tyOf w3 k 61:=fun k hk=>hrow.ty (by
  rw[hk]
  show some ad.block=some (ad.add (i*3)).block
  rw[A0z])
 have hcs:=Chg.setH w3 (A1x (ad.add (i*3))) (.pointer (some ⟨p'.ge,0,none⟩))
 have hoff:∀q,PgAt w3 base q→∀k,foot q k→¬k=(A1x (ad.add (i*3))).block:=fun q hq k hk he=>hq.off (hrk k he) EF EF EF EF hk
 have hbox:Blk w3 gh 57 #[.slice (some ad) ps.length c]:=h.blk.chgH hp.chg (h.offBox hm)
 refine⟨hbox.chgH hcs fun he=>absurd (hbox.ty.ne (hrk _ he)) EF,h.lo,by rw[Bj];exact hset,fun q hq=> ?_,B3J h.dis hi (fun q hq k hk=>((h.pg q hq).lt hk).2) hp.new_⟩
 obtain⟨j,hj2,rfl⟩:=List.getElem_of_mem hq
 rw[Bj] at hj2
 rw[Do]
 split
 ·exact hp.at_.chg hcs (hoff _ hp.at_)
 ·rename_i hij
  have h3:PgAt w3 base ps[j]:=(h.pg _ (Ac hj2)).chg hp.chg fun k h1 h2=>A7h h.dis hj2 hi (fun e=>hij e.symm) h1 h2
  exact h3.chg hcs (hoff _ h3)
structure HsTo (w w':World) (base gh:Nat) (v:Value) (ps:List Pc) (P':List Ps):Prop where
 ex:∃v' ps',HsAt w' base gh v' ps'∧ps'.map Pc.s=P'∧∀k,HK gh v' ps' k→HK gh v ps k∨w.heap.size≤k
 chg:Chg w w' (HK gh v ps)
theorem HsTo.ofPage{ad:Addr}{n c:Nat}(h:HsAt w base gh (.slice (some ad) n c) ps){i:Nat}(hi:i<ps.length){p':Pc}{s':Ps}(hp:PgTo3 w w3 base ps[i] s' p')(hnm:s'.nm=ps[i].s.nm)(he:Ends (ad.add (i*3)) ps[i] p' w3 w'):
 HsTo w w' base gh (.slice (some ad) n c) ps ((ps.map Pc.s).set i s'):=by
 have hc:Chg w w3 (HK gh (.slice (some ad) n c) ps):=hp.chg.monoH fun k _ hk=>HK.ofPage hi hk
 have hmap:(ps.set i p').map Pc.s=(ps.map Pc.s).set i s':=by rw[List.map_set,hp.s]
 rcases he with⟨rfl,hge⟩|rfl
 ·refine⟨⟨_,ps.set i p',h.page hi hp.at_ hp.chg hp.new_ ?_,hmap,HK.set_ hi hp.new_⟩,hc⟩
  show [_,_,_]=[_,_,_]
  rw[hp.s,hp.gf,hge,hnm]
 ·refine⟨⟨_,ps.set i p',h.page1 hi hp hnm,hmap,HK.set_ hi hp.new_⟩,hc.trans (Chg.setH w3 _ _) fun k hk hlt=> ?_⟩
  subst hk
  refine .inr (.inl ?_)
  show some ad.block=some (ad.add (i*3)).block
  rw[A0z]
theorem HsTo.same(h:HsAt w base gh v ps)(hb:Below w.heap.size w w'):HsTo w w' base gh v ps (ps.map Pc.s):=⟨⟨v,ps,h.below hb,rfl,fun _ hk=> .inl hk⟩,Chg.ofB hb⟩
end
theorem A6y{base:Nat}{e:TypeId}{size n c g o:Nat}:∀{zs:List Value} {w:World} {xs:List Value} {j:Nat},OwnO w base e size (.slice (some ⟨g,o,none⟩) n c) n xs→j+zs.length≤n*size→
 OwnO (w.setCells g (o+j) zs) base e size (.slice (some ⟨g,o,none⟩) n c) n (xs.take j++zs++xs.drop (j+zs.length))
 |[],w,xs,j,h,_=>by
  have e:xs.take j++ []++xs.drop (j+([]:List Value).length)=xs:=by simp
  rw[e]
  exact h
 |z::zs,w,xs,j,h,hj=>by
  rw[AM] at hj
  have hl:=h.1
  have h1:=(A0l h (j:=j) EE z).1
  have ea:(⟨g,o,none⟩:Addr).add j=⟨g,o+j,none⟩:=by unfold Addr.add;split<;>simp_all
  rw[ea] at h1
  have h2:=A6y (zs:=zs) (j:=j+1) h1 EE
  have e:(xs.set j z).take (j+1)++zs++(xs.set j z).drop (j+1+zs.length)=xs.take j++(z::zs)++xs.drop (j+(z::zs).length):=by
   rw[AM,List.take_set,List.drop_set_of_lt EE,Aa EE,Ce _ _ (by rw[AV];omega),AV,BX EE,Ca,AE,show j+1+zs.length=j+(zs.length+1) by omega]
   simp
  rw[e] at h2
  exact h2
theorem A4q{g:Nat}:∀(zs:List Value) (o:Nat) (w:World),w.grownBy (w.setCells g o zs) (some g)
 |[],_,w=>A0U w _
 |z::zs,o,w=>A0M (A8R (ad:=⟨g,o,none⟩) (A0U w _) ⟨g,o,none⟩ z rfl) (A4q zs (o+1) _)
theorem B6r{P:Program}{t e:TypeId}{size:Nat}{z:Value}(ht:P.underlying t=some (.slice e))(hv:∀w,(zeroValue e).run P w= .ok z w)(hz:z.cells.size=size)(hz1:∀v∈z.cells.toList,v.oneCell'=true)(hs0:0<size){xs:List Value}{base N c c' k:Nat}{ad:Addr}{w:World}(h:OwnO w base e size (.slice (some ad) N c) N xs)(hk:k<N)(ty:TypeId):
 ∃w',(Builtin.clear_ #[t] ty #[.slice (some (ad.add (k*size))) (N-k) c']).run P w= .ok (.tuple #[]) w'∧OwnO w' base e size (.slice (some ad) k c) k (xs.take (k*size))∧w.grownBy w' (some ad.block):=by
 have hown:=h
 have hmul:k*size+(N-k)*size=N*size:=by rw[←CG];congr 1;omega
 rcases hown.2 with⟨h1,_⟩|⟨g,o,cap,cur,h1,h2,h3,h4,h5,h6,h7⟩
 ·cases h1
 ·cases h1
  obtain⟨zs,hzs⟩:∃zs,zs=(Builtin.zeroCells z.cells (N-k)).toList:=⟨_,rfl⟩
  have hlz:zs.length=(N-k)*size:=by rw[hzs,CL,size_zeroCells,hz]
  have h8:∀v∈zs,v.oneCell'=true:=by
   intro v hv
   rw[hzs] at hv
   unfold Builtin.zeroCells at hv
   rw[Array.toList_map,DA] at hv
   obtain⟨i,_,rfl⟩:=hv
   have hm:i%z.cells.size<z.cells.size:=DV _ EE
   show(z.cells[i%z.cells.size]!).oneCell'=true
   rw[getElem!_pos z.cells _ hm]
   exact hz1 _ EH
  have e0:(⟨g,o,none⟩:Addr).add (k*size)=⟨g,o+k*size,none⟩:=by unfold Addr.add;split<;>simp_all
  have hcz:cur.toList.length=cur.size:=by simp
  have hNc:N*size≤c*size:=BZ _ h4
  have hst:=run_storeCells_cells (P:=P) g (o+k*size) zs 0 w (fun j hj=>by
   rw[cell_of_row w g _ cur _ _ h3]
   rw[DM EE];rfl) (fun j _=>by simp[World.frozen?,h3]) h8
  simp only[CN] at hst
  have h9:=A6y hown (zs:=zs) (j:=k*size) EE
  have hxl:=hown.1
  rw[Au EE,Aq] at h9
  have h10:=h9.front (some ⟨g,o,none⟩) c k rfl EE EH
  rw[List.take_left' (by rw[AV];omega)] at h10
  refine⟨_, ?_,h10,A4q zs (o+k*size) w⟩
  rw[e0]
  obtain⟨q,hq⟩:∃q,N-k=q+1:=⟨N-k-1,by omega⟩
  rw[hq] at hzs⊢
  simp[Builtin.clear_,run_underlying ht,hv,←hzs,hst]
theorem fitO{P:Program}{t ty e:TypeId}{i:TypeInfo}(ht:P.underlying t=some (.slice e))(hi:P.info? e=some i){size:Nat}(hsize:i.size=size){base n N c:Nat}{ad:Addr}{xs:List Value}{w:World}(h:OwnO w base e size (.slice (some ad) N c) N xs)(a:Addr)(m c2:Nat)(news:List Value)(hl:news.length=m*size)(hnews:∀j u,news[j]? =some u→w.cell? (a.add j)=some u)(h1:∀u∈news,u.oneCell'=true)(hfit:n+m≤N):
 ∃w',(Builtin.append_ #[t,t] ty #[.slice (some ad) n c,.slice (some a) m c2]).run P w= .ok (.slice (some ad) (n+m) c) w'∧OwnO w' base e size (.slice (some ad) N c) N (xs.take (n*size)++news++xs.drop (n*size+news.length))∧w.grownBy w' (some ad.block):=by
 have hown:=h
 have hmul:n*size+m*size≤N*size:=by rw[←CG];exact BZ _ hfit
 rcases hown.2 with⟨hh,_⟩|⟨g,o,cap,cur,hh,h2,h3,h4,h5,h6,h7⟩
 ·cases hh
 ·cases hh
  have hNc:N*size≤c*size:=BZ _ h4
  have hst:=run_storeCells_cells (P:=P) g (o+n*size) news 0 w (fun j hj=>by
   rw[cell_of_row w g _ cur _ _ h3]
   rw[DM EE];rfl) (fun j _=>by simp[World.frozen?,h3]) h1
  simp only[CN] at hst
  have h9:=A6y hown (zs:=news) (j:=n*size) EE
  have hf:=run_firstCells_some (P:=P) w i.size m a m c2 news (by rw[hsize];exact hl) hnews
  have hadd:(⟨g,o,none⟩:Addr).add (n*size)=⟨g,o+n*size,none⟩:=by unfold Addr.add;split<;>simp_all
  have hroom:n+m≤c:=EE
  unfold maxLen at h5
  have hsmall:n+m≤9223372036854775807:=EE
  refine⟨_, ?_,h9,A4q news (o+n*size) w⟩
  subst hsize
  exact C0h
theorem B6s{P:Program}{e:TypeId}{i:TypeInfo}(h:P.info? e=some i)(w:World):(sizeOf e).run P w= .ok i.size w:=by
 simp[sizeOf,typeInfo,h]
theorem A5X{P:Program}{t:TypeId}(ht:P.underlying t=some (.slice (P.elem t))){size:Nat}(hz:(P.info? (P.elem t)).map (·.size)=some size)(A:Option Addr)(n c a:Nat)(hab:a≤n)(w:World):
 (Instr.sliceAt t (.slice A n c) (some (.int .i64 (a:Int))) none none).run P w= .ok (.slice (if c=a then A else A.map (·.add (a*size))) (n-a) (c-a)) w:=by
 obtain⟨i,hi,rfl⟩:=CZ.1 hz
 rw[run_sliceAt_slice w t _ _ _ _ ht,run_slice_l w t A n c ht .i64 a EE EE]
 rw[B6s hi,Result.andThen]
 simp[sliced]
theorem B3O:(Tryz.prog.info? 61).map (fun i=>(i.zero,i.size,i.bytes))=some (some (.agg #[.string ByteArray.empty,.pointer none,.pointer none]),3,32):=by kernel_rfl
theorem A7F:(Tryz.prog.info? 82).map (fun i=>(i.zero,i.size,i.bytes))=some (some (.agg #[.string ByteArray.empty,.string ByteArray.empty,.string ByteArray.empty,.int .i64 0,.slice none 0 0,.slice none 0 0]),6,104):=by kernel_rfl
theorem B2i{α:Type}{ec:α→List Value}{m:Nat}(hec:∀x,(ec x).length=m):∀(l:List α) (i:Nat),i<l.length→(l.flatMap ec).take (i*m)++(l.flatMap ec).drop ((i+1)*m)=(l.eraseIdx i).flatMap ec
 |[],i,h=>by simp at h
 |a::l,0,_=>by
  rw[List.eraseIdx_cons_zero,BI,Nat.zero_mul,Bs,Am,An,Ct,List.drop_left' (hec a)]
 |a::l,i+1,h=>by
  rw[DZ,BI,BI,←B2i hec l i (by simpa using h)]
  have e1:(i+1)*m=(ec a).length+i*m:=by rw[hec,CG,Ct,DB]
  have e2:(i+1+1)*m=(ec a).length+(i+1)*m:=by rw[hec,CG (i+1) 1 m,Ct,DB]
  rw[e2]
  obtain⟨K,hK⟩:∃K,(i+1)*m=K:=⟨_,rfl⟩
  rw[hK] at e1⊢
  have t1:∀F:List Value,List.take K (ec a++F)=ec a++List.take (i*m) F:=fun F=>by
   rw[e1,Co,AX EE,Bw]
  have t2:∀F:List Value,List.drop ((ec a).length+K) (ec a++F)=List.drop K F:=fun F=>by
   rw[List.drop_append,Au EE,Bw,Am]
  rw[t1,t2,AN]
theorem delPc0(xs:List Value)(v:Value)(N i base:Nat)(w:World)(h:OwnO w base 61 3 v N xs)(hcl:i<N)(hN:N≤1000)(h1:∀u∈xs,u.oneCell'=true):
 Calls Tryz.prog 30 #[v,.int .i64 (i:Int),.int .i64 ((i:Int)+1)] w fun e w'=>∃A c,v= .slice A N c∧e= .returned (.slice A (N-1) c)∧OwnO w' base 61 3 (.slice A (N-1) c) (N-1) (xs.take (i*3)++xs.drop ((i+1)*3))∧w.grownBy w' v.ownBlock:=by
 obtain⟨i0,hi0,hz0,hz1,hz2⟩:=info_parts B3O
 obtain⟨M,hM⟩:∃M,N=M+1:=⟨N-1,by omega⟩
 rcases h.2 with⟨_,h0⟩|⟨g,o,c,cur,rfl,_,_,hnc,hcm,_,_⟩
 ·omega
 obtain⟨ad,had⟩:∃ad:Addr,ad=⟨g,o,none⟩:=⟨_,rfl⟩
 rw[←had] at h⊢
 clear had
 obtain⟨A2,hA2⟩:∃A2,(if c=i+1 then ad else ad.add ((i+1)*3))=A2:=⟨_,rfl⟩
 have hcutB:∀W,(Instr.sliceAt 55 (.slice (some ad) N c) (some (.int .i64 ((i:Int)+1))) none none).run Tryz.prog W= .ok (.slice (some A2) (M-i) (c-(i+1))) W:=fun W=>by
  have h9:=A5X (t:=55) Tryz.underlying55 EG (size:=3) (some ad) N c (i+1) EE W
  exact C1P
 obtain⟨news,hnw⟩:∃news,news=xs.drop ((i+1)*3):=⟨_,rfl⟩
 have hxl:=h.1
 have hnl:news.length=(N-(i+1))*3:=by rw[hnw,AZ,hxl,←Nat.sub_mul]
 obtain⟨_,_,hv,_,_,hrd⟩:=h.form
 have hnews:∀j u,news[j]? =some u→w.cell? (A2.add j)=some u:=fun j u hj=>by
  exact C1h
 have hone:∀u∈news,u.oneCell'=true:=fun u hu=>h1 u (by rw[hnw] at hu;exact List.mem_of_mem_drop hu)
 have hrun:=fitO (ty:=55) (w:=w.drew) Tryz.underlying55 hi0 hz1 (h.below (Bl (AI _ _))) (n:=i) A2 (N-(i+1)) (c-(i+1)) news hnl hnews hone EE
 have HFR:Hid (∀W2:World,OwnO W2 base 61 3 (.slice (some ad) N c) N (xs.take (i*3)++news++xs.drop (i*3+news.length))→∃w',(Builtin.clear_ #[55] 0 #[.slice (some (ad.add (M*3))) 1 (c-M)]).run Tryz.prog W2= .ok (.tuple #[]) w'∧OwnO w' base 61 3 (.slice (some ad) M c) M (xs.take (i*3)++xs.drop ((i+1)*3))∧W2.grownBy w' (some ad.block)):=fun W2 hW2=>by
  obtain⟨w',e1,e2,e3⟩:=B6r (size:=3) Tryz.underlying55 (z:=(.agg #[.string ByteArray.empty,.pointer none,.pointer none])) (fun w=>by kernel_rfl) rfl EF EF hW2 (k:=M) (c':=c-M) EE 0
  rw[show N-M=1 by omega] at e1
  refine⟨w',e1, ?_,e3⟩
  have hq:(xs.take (i*3)++news++xs.drop (i*3+news.length)).take (M*3)=xs.take (i*3)++xs.drop ((i+1)*3):=by
   rw[List.take_left' (by rw[AJ,AV,hnl];omega),hnw]
  rwa[hq] at e2
 obtain⟨w6,hr6,ho6,hg6⟩:=hrun
 rw[show N-(i+1)=M-i by omega,show i+(M-i)=M by omega] at hr6
 have HR6:=AA hr6
 obtain⟨w7,hclr,ho7,hg7⟩:=HFR.out w6 ho6
 have HO7:=AA ho7
 have HG7:Hid (w.grownBy w7 (some ad.block)):=A0M (A3Y (A0U w (some ad.block))) (A0M hg6 hg7)
 have hMN:M≤1000:=EE
 have hMc:M+1≤c:=EE
 have hck:¬c=M:=EE
 have hNc:=hnc
 have g1:((i:Int)==(i:Int)+1)=false:=by rw[AH];omega
 have HNM:=AA hM
 clear hr6 ho6 hg6 ho7 hg7 HFR hnews hone hnl hxl hnw hv hrd hA2 h1 h
 subst hM
 go_enter Tryz.func30,Tryz.ntmps30
 exact C0N
theorem delRc0(xs:List Value)(v:Value)(N i base:Nat)(w:World)(h:OwnO w base 82 6 v N xs)(hcl:i<N)(hN:N≤1000)(h1:∀u∈xs,u.oneCell'=true):
 Calls Tryz.prog 36 #[v,.int .i64 (i:Int),.int .i64 ((i:Int)+1)] w fun e w'=>∃A c,v= .slice A N c∧e= .returned (.slice A (N-1) c)∧OwnO w' base 82 6 (.slice A (N-1) c) (N-1) (xs.take (i*6)++xs.drop ((i+1)*6))∧w.grownBy w' v.ownBlock:=by
 obtain⟨i0,hi0,hz0,hz1,hz2⟩:=info_parts A7F
 obtain⟨M,hM⟩:∃M,N=M+1:=⟨N-1,by omega⟩
 rcases h.2 with⟨_,h0⟩|⟨g,o,c,cur,rfl,_,_,hnc,hcm,_,_⟩
 ·omega
 obtain⟨ad,had⟩:∃ad:Addr,ad=⟨g,o,none⟩:=⟨_,rfl⟩
 rw[←had] at h⊢
 clear had
 obtain⟨A2,hA2⟩:∃A2,(if c=i+1 then ad else ad.add ((i+1)*6))=A2:=⟨_,rfl⟩
 have hcutB:∀W,(Instr.sliceAt 27 (.slice (some ad) N c) (some (.int .i64 ((i:Int)+1))) none none).run Tryz.prog W= .ok (.slice (some A2) (M-i) (c-(i+1))) W:=fun W=>by
  have h9:=A5X (t:=27) Tryz.underlying27 EG (size:=6) (some ad) N c (i+1) EE W
  exact C1P
 obtain⟨news,hnw⟩:∃news,news=xs.drop ((i+1)*6):=⟨_,rfl⟩
 have hxl:=h.1
 have hnl:news.length=(N-(i+1))*6:=by rw[hnw,AZ,hxl,←Nat.sub_mul]
 obtain⟨_,_,hv,_,_,hrd⟩:=h.form
 have hnews:∀j u,news[j]? =some u→w.cell? (A2.add j)=some u:=fun j u hj=>by
  exact C1h
 have hone:∀u∈news,u.oneCell'=true:=fun u hu=>h1 u (by rw[hnw] at hu;exact List.mem_of_mem_drop hu)
 have hrun:=fitO (ty:=27) (w:=w.drew) Tryz.underlying27 hi0 hz1 (h.below (Bl (AI _ _))) (n:=i) A2 (N-(i+1)) (c-(i+1)) news hnl hnews hone EE
 have HFR:Hid (∀W2:World,OwnO W2 base 82 6 (.slice (some ad) N c) N (xs.take (i*6)++news++xs.drop (i*6+news.length))→∃w',(Builtin.clear_ #[27] 0 #[.slice (some (ad.add (M*6))) 1 (c-M)]).run Tryz.prog W2= .ok (.tuple #[]) w'∧OwnO w' base 82 6 (.slice (some ad) M c) M (xs.take (i*6)++xs.drop ((i+1)*6))∧W2.grownBy w' (some ad.block)):=fun W2 hW2=>by
  obtain⟨w',e1,e2,e3⟩:=B6r (size:=6) Tryz.underlying27 (z:=(.agg #[.string ByteArray.empty,.string ByteArray.empty,.string ByteArray.empty,.int .i64 0,.slice none 0 0,.slice none 0 0])) (fun w=>by kernel_rfl) rfl EF EF hW2 (k:=M) (c':=c-M) EE 0
  rw[show N-M=1 by omega] at e1
  refine⟨w',e1, ?_,e3⟩
  have hq:(xs.take (i*6)++news++xs.drop (i*6+news.length)).take (M*6)=xs.take (i*6)++xs.drop ((i+1)*6):=by
   rw[List.take_left' (by rw[AJ,AV,hnl];omega),hnw]
  rwa[hq] at e2
 obtain⟨w6,hr6,ho6,hg6⟩:=hrun
 rw[show N-(i+1)=M-i by omega,show i+(M-i)=M by omega] at hr6
 have HR6:=AA hr6
 obtain⟨w7,hclr,ho7,hg7⟩:=HFR.out w6 ho6
 have HO7:=AA ho7
 have HG7:Hid (w.grownBy w7 (some ad.block)):=A0M (A3Y (A0U w (some ad.block))) (A0M hg6 hg7)
 have hMN:M≤1000:=EE
 have hMc:M+1≤c:=EE
 have hck:¬c=M:=EE
 have hNc:=hnc
 have g1:((i:Int)==(i:Int)+1)=false:=by rw[AH];omega
 have HNM:=AA hM
 clear hr6 ho6 hg6 ho7 hg7 HFR hnews hone hnl hxl hnw hv hrd hA2 h1 h
 subst hM
 go_enter Tryz.func36,Tryz.ntmps36
 exact C0N
theorem HsAt.cut{w w':World}{base gh:Nat}{A:Option Addr}{n c i:Nat}{ps:List Pc}(h:HsAt w base gh (.slice A n c) ps)(hi:i<ps.length)(ho:OwnO w' base 61 3 (.slice A (ps.length-1) c) (ps.length-1) ((A1j ps).take (i*3)++(A1j ps).drop ((i+1)*3)))(hg:w.grownBy w' (Value.slice A n c).ownBlock):
 HsAt (w'.setCell ⟨gh,0,none⟩ (.slice A (ps.length-1) c)) base gh (.slice A (ps.length-1) c) (ps.eraseIdx i):=by
 have hob:(Value.slice A (ps.length-1) c).ownBlock=(Value.slice A n c).ownBlock:=by cases A<;>rfl
 have hbx:Blk w' gh 57 #[.slice A n c]:=h.blk.grown hg fun e=>by
  rcases h.boxRow with h1|h1
  ·rw[h1] at e;cases e
  ·exact h1 e.symm
 have hc:Chg w w' (fun k=>(Value.slice A n c).ownBlock=some k):=Chg.of_gb hg fun k hk=>hk
 have hc2:=Chg.setH w' ⟨gh,0,none⟩ (.slice A (ps.length-1) c)
 have hl:(ps.eraseIdx i).length=ps.length-1:=by rw[List.length_eraseIdx,if_pos hi]
 refine⟨hbx.set_ 0 _,h.lo, ?_,fun p hp=> ?_,h.dis.sublist (List.eraseIdx_sublist ..)⟩
 ·rw[hl]
  have e:A1j (ps.eraseIdx i)=(A1j ps).take (i*3)++(A1j ps).drop ((i+1)*3):=(B2i B1T ps i hi).symm
  rw[e]
  exact ho.far (ho.ne_blk hbx EF) _ _
 ·have hm:=CU hp
  exact((h.pg p hm).chg hc fun k hk he=>h.offRow hm he hk).chg hc2 fun k hk he=>by
   have h9:=((h.pg p hm).chg hc fun k hk he=>h.offRow hm he hk).off hbx.ty EF EF EF EF
   subst he
   exact h9 hk
end Go.Proofs.YtplgghjdidmcfaaGreatDoor
