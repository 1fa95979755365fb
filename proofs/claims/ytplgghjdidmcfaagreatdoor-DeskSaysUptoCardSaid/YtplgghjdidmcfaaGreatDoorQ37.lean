/- Written anew, smaller, by a program of our own out of our texts. No condition of our own. -/
import Derived.Test.YtplgghjdidmcfaaGreatDoorQ36
import Derived.Test.YtplgghjdidmcfaaGreatDoorQ23
import Derived.Test.YtplgghjdidmcfaaGreatDoorQ34
set_option maxRecDepth 100000
set_option maxHeartbeats 16000000
set_option linter.all false
namespace Go.Proofs.YtplgghjdidmcfaaGreatDoor
open Go.RowKit
theorem B9F{P:Prop}(h:P:=by
 rw[hE9] at HEA HRG⊢
 rw[hT9] at HEA HTL⊢
 clear hE9 hT9
 by_cases hE:E=0
 ·subst hE
  have htl:=HTL.out
  have y3:=HRA3.out.h.cell0
  have y6:=HRA3.out.o.cell0;have y6f:=HRA3.out.o.frozen 0
  go_wp2_with fail
  have zz:=(HRA3.out.o.set_ 0 (.slice A' N' c')).cell0
  clear y3 y6 y6f z3 z3f htl
  (apply bodyPost_ret;(simp[results,Tryz.results49,go_sem,zz];rfl);rfl)
  exact B2F HRA3.out HN9.out (by rw[HEA.out.1 (by first|trivial|rfl)];rfl) (by rw[HM9.out];exact HEA.out.2.2.symm)
 ·exact B9H
 ):P:=h
theorem C0s{P:Prop}(h:P:=by
 clear hr HMM
 generalize S x0=X0 at*
 go_wp2_with fail
 refine HDE.out.mono ?_
 rintro e w4 hA
 unfold A2e at hA
 by_cases hk0:(dkN x0).1=0
 ·rw[if_pos hk0] at hA
  obtain⟨rfl,hb4⟩:=hA
  have HB4:=AA (HB0.out.trans (hb4.mono HB0.out.size))
  have HC4:=AA (HB00.out.trans (hb4.mono HB00.out.size))
  have HOR4:=AA (HOR.out.below' hb4)
  have HAK4:=AA (HAK.out w4 hb4)
  obtain⟨ht1,ht2⟩:=A9l (P:=ps.map Pc.s) h1 hk0
  have HTB:=AA ht2
  have HRG:=AA (B8o x0 r)
  clear HDE HAK hb4 ht2
  by_cases hE:askE x0 r=0
  ·rw[A5k hE] at HAK4
   rw[if_pos hE] at ht1
   have HTA:=AA ht1
   clear hE ht1
   generalize askT x0 r=T at*
   go_wp2_with fail
   refine HAK4.out.mono ?_
   rintro e w5 ⟨rfl,hb5⟩
   have HB5:=AA (HB4.out.trans (hb5.mono HB4.out.size))
   have HC5:=AA (HC4.out.trans (hb5.mono HC4.out.size))
   have HOR5:=AA (HOR4.out.below' hb5)
   have z0:=HOR5.out.cell 0;have z1:=HOR5.out.frozen 0
   clear HAK4
   go_wp2_with fail
   clear z0 z1
   have hfin:=(HsTo.same (HD.out.h.below HB5.out) (AI _ _)).fin HD.out.h HB5.out (AI _ _) (AD _) HOR5.out.lt (.string (S T))
   have hox:=(HOR5.out.set_ 0 (.string (S T))).cell 0
   exact C2D
  ·rw[A3X rfl hE] at HAK4
   rw[if_neg hE] at ht1
   have HTA:=AA ht1
   clear hE ht1
   generalize askE x0 r=E at*
   go_wp2_with fail
   refine HAK4.out.mono ?_
   rintro e w5 ⟨rfl,hb5⟩
   have HB5:=AA (HB4.out.trans (hb5.mono HB4.out.size))
   have HC5:=AA (HC4.out.trans (hb5.mono HC4.out.size))
   have HOR5:=AA (HOR4.out.below' hb5)
   clear HAK4
   go_wp2_with fail
   refine leaves_cons (f:=92) (args:= #[.pointer (some ⟨w.heap.size,0,none⟩)]) EH (by simp[go_sem]) ?_
   refine(A4F w.heap.size _ E w0 _ HRG.out HOR5.out.cell0 (HOR5.out.frozen 0) HOR5.out.lt HT.out HC5.out).mono ?_
   rintro e u' w'' ⟨rfl,rfl,wx,hbx,rfl⟩
   have hox:=((HOR5.out.below' hbx).set_ 0 (.string (S (errB E)))).cell 0
   simp[Leaves,settle,results,Tryz.results48,go_sem,hox]
   refine⟨by rw[HTA.out], ?_⟩
   rw[HTB.out]
   exact(HsTo.same (HD.out.h.below HB5.out) (AI _ _)).fin HD.out.h HB5.out hbx (AD _) HOR5.out.lt _
 rw[if_neg hk0] at hA
 clear HAK
 by_cases hs0:dkS x0 r=false
 ·rw[if_pos hs0] at hA
  obtain⟨rfl,hb4⟩:=hA
  have HB4:=AA (HB0.out.trans (hb4.mono HB0.out.size))
  have HC4:=AA (HB00.out.trans (hb4.mono HB00.out.size))
  have HOR4:=AA (HOR.out.below' hb4)
  obtain⟨ht1,ht2⟩:=A9m (P:=ps.map Pc.s) h1 hk0 hs0
  have HTA:=AA ht1
  have HTB:=AA ht2
  clear HDE hb4 ht1 ht2
  go_wp2_with fail
  refine leaves_cons (f:=92) (args:= #[.pointer (some ⟨w.heap.size,0,none⟩)]) EH (by simp[go_sem]) ?_
  refine(A4F w.heap.size _ 12 w0 _ ⟨by decide,by decide⟩ HOR4.out.cell0 (HOR4.out.frozen 0) HOR4.out.lt HT.out HC4.out).mono ?_
  rintro e u' w'' ⟨rfl,rfl,wx,hbx,rfl⟩
  have hox:=((HOR4.out.below' hbx).set_ 0 (.string (S (errB 12)))).cell 0
  simp[Leaves,settle,results,Tryz.results48,go_sem,hox]
  refine⟨by rw[HTA.out], ?_⟩
  rw[HTB.out]
  exact(HsTo.same (HD.out.h.below HB4.out) (AI _ _)).fin HD.out.h HB4.out hbx (AD _) HOR4.out.lt _
 rw[if_neg hs0] at hA
 obtain⟨A5,rfl,hto⟩:=hA
 obtain⟨ht1,ht3,ht2⟩:=A3T (P:=ps.map Pc.s) A5 h1 hk0 hs0
 have HTO:=AA hto
 have HC4:=AA (HB00.out.trans ((HD.out.h.below HB0.out).bel hto.chg HB00.out.size))
 have HOR4:=AA (HOR.out.chgH hto.chg (A2d HD.out.h (AD _)))
 have HRG:=AA (A2D (ps.map Pc.s) (dkD x0 r A5))
 have HTB:=AA ht2
 clear HDE hto ht2
 by_cases hE:hsE (ps.map Pc.s) (dkD x0 r A5)=0
 ·have HTA:=AA (ht1 hE)
  unfold A5h
  rw[if_pos hE]
  clear ht1 ht3 hE
  generalize(if(dkD x0 r A5).kind=8 then 58::L (hsT (ps.map Pc.s) (dkD x0 r A5)) else [111,107])=T at*
  have z0:=HOR4.out.cell 0;have z1:=HOR4.out.frozen 0
  go_wp2_with fail
  clear z0 z1
  have hfin:=HTO.out.fin HD.out.h HB0.out (AI _ _) (AD _) HOR.out.lt (.string (S T))
  have hox:=(HOR4.out.set_ 0 (.string (S T))).cell 0
  exact C2D
 ·have HTA:=AA (ht3 hE)
  unfold A5h
  rw[if_neg hE]
  clear ht1 ht3 hE
  generalize hsE (ps.map Pc.s) (dkD x0 r A5)=E at*
  go_wp2_with fail
  refine leaves_cons (f:=92) (args:= #[.pointer (some ⟨w.heap.size,0,none⟩)]) EH (by simp[go_sem]) ?_
  refine(A4F w.heap.size _ E w0 _ HRG.out HOR4.out.cell0 (HOR4.out.frozen 0) HOR4.out.lt HT.out HC4.out).mono ?_
  rintro e u' w'' ⟨rfl,rfl,wx,hbx,rfl⟩
  have hox:=((HOR4.out.below' hbx).set_ 0 (.string (S (errB E)))).cell 0
  simp[Leaves,settle,results,Tryz.results48,go_sem,hox]
  refine⟨by rw[HTA.out], ?_⟩
  rw[HTB.out]
  exact HTO.out.fin HD.out.h HB0.out hbx (AD _) HOR.out.lt _
 ):P:=h
theorem C0t{P:Prop}(h:P:=by
 clear hss hm9 hqb
 obtain⟨X0,hX9⟩:∃X0,S x0=X0:=⟨_,rfl⟩
 rw[hX9] at q6 HLX hxs HWD
 have HX09:=AA hX9
 clear hX9
 have hmm:=@run_makeMap Tryz.prog
 cases qb
 all_goals
  go_enter Tryz.func49,Tryz.ntmps49
  go_wp2_with fail
  generalize(w.alloc (.cells #[.slice A N c] 29)).alloc (.cells #[.slice none 0 0] 29)=w1 at*
  refine(HFF.out _).mono ?_
  rintro e w2 ⟨g2,rfl,ho2,hb2⟩
  have HRA:=AA (HRN.out.below hb2)
  have HRQ:=AA (Rd.of_own ho2)
  clear HFF ho2 hb2 HRN
  have HRT:=AA (A2s HRQ.out)
  have c0:w2.cell? ⟨g2,0,none⟩=some (.string X0):=by
   exact B9E
  clear HRQ
  rw[AM]
  rw[HM.out] at HRT⊢
  go_wp2_with fail
  go_quiet (fail)
  go_wp2_with fail
  have HRA2:=AA (HRA.out.below (A0d (AI _ _) nq))
  have HRT2:=AA ((HRT.out.drewN nq).more (A0d (B:=w2.heap.size) (AI _ w2) nq).size)
  refine(HWD.out _ _ _ HRT2.out (A0c HT.out HRA2.out.b)).mono ?_
  rintro e wq ⟨rfl,hbq⟩
  have HRA:=AA (HRA2.out.below hbq)
  have HRT:=AA ((HRT2.out.below hbq).more hbq.size)
  clear HRA2 HRT2 c0 hbq
  have hm:=MapSI.made wq
  have hb5:Below wq.heap.size wq (wq.alloc (.map #[] 0)):=(AI _ _).alloc (AD _) _
  go_wp2_with ((first|(refine MapSI.insert hm (by unfold maxLen;decide) _ (by unfold maxLen;decide) _ EF rfl _ _ _ rfl rfl rfl rfl ?_;intro w9 hm1 hg1;have hb6:=hb5.grown hg1 hb5.size (fun k hk=>by cases hk;first|exact AD _|exact hbx))|(have hb7:=hb5.alloc hb5.size (.map #[] 0);have hbx:=hb5.size;refine MapSI.insert (MapSI.made w9) (by unfold maxLen;decide) _ (by unfold maxLen;decide) _ EF rfl _ _ _ rfl rfl rfl rfl ?_;intro w9 hm1 hg1;have hb6:=hb7.grown hg1 hb7.size (fun k hk=>by cases hk;exact hbx);clear hb7));clear hm hb5 hg1;have hm:=hm1;have hb5:=hb6;clear hm1 hb6;(first|(have hlk:=(MapSI.ext hm (g:=fK) (fun t=>rfl)).look X0 (by unfold maxLen;omega);rw[HLX.out,HFK.out] at hlk)|(have hlm:=(MapSI.ext hm (g:=fM) (fun t=>rfl)).look X0 (by unfold maxLen;omega);rw[HLX.out,HFM.out] at hlm)|skip))
  clear hm
  go_wp2_with fail
  have HRA:=AA (HRA.out.below hb5)
  clear hb5 hlk hlm
  have hC3:=HRA.out.h.cell0
  have z6:=HRA.out.o.cell0;have z6f:=HRA.out.o.frozen 0
  obtain⟨F1,HF1,hcell10⟩:=cells1 ⟨w.heap.size,0,none⟩ (.slice A N c)
  refine EB [(0,true),(1,false),(2,false),(3,true)] HF1 ?_
  intro hne1
  simp only[A0i,AT,AP,AR]
  repeat(first|((first|refine Dt ?_|refine Du ?_);intro K hK;go_big_quiet_op;go_big_quiet_on)|((first|refine Dv ?_|refine Dw ?_);simp only[Act.put,AB,AE,AF]))
  have HRD:=AA (HRA.out.below ((AI _ _).drew))
  refine A0a ?_
  go_wp2_with fail
  refine(A2f 12 EF EF HT.out HRD.out.b).mono ?_
  rintro e wa ⟨rfl,hba⟩
  have HRB:=AA (HRD.out.below hba)
  have hC3a:=HRB.out.h.cell0
  go_wp2_with fail
  refine ED HF1 ?_ hC3a
  repeat(first|((first|refine Dt ?_|refine Du ?_);intro K hK;go_big_quiet_op;go_big_quiet_on)|((first|refine Dv ?_|refine Dw ?_);simp only[Act.put,AB,AE,AF]))
  have y6:=HRB.out.o.cell0;have y6f:=HRB.out.o.frozen 0
  have hng:w.heap.size≠w.heap.size+1:=EE
  have hng2:¬w.heap.size+1=w.heap.size:=EE
  refine A0a ?_
  go_wp2_with fail
  have hC3b:(wa.setCell ⟨w.heap.size+1,0,none⟩ (.slice A N c)).cell? ⟨w.heap.size,0,none⟩=some (.slice A N c):=(HRB.out.h.far hng _).cell0
  refine ED HF1 ?_ hC3b
  repeat(first|((first|refine Dt ?_|refine Du ?_);intro K hK;go_big_quiet_op;go_big_quiet_on)|((first|refine Dv ?_|refine Dw ?_);simp only[Act.put,AB,AE,AF]))
  refine A0g ?_
  clear HF1 hC3 hC3a hC3b z6 z6f y6 y6f hcell10 hne1
  have zz:=(HRB.out.o.set_ 0 (.slice A N c)).cell0
  go_wp2_with fail
  (apply bodyPost_ret;(simp[results,Tryz.results49,go_sem,zz];rfl);rfl)
  exact A3F HRB.out HNN.out (HEN.out _).1 (HEN.out _).2
 ):P:=h
theorem C0v{P:Prop}(h:P:=by
 obtain⟨X0,hX9⟩:∃X0,S x0=X0:=⟨_,rfl⟩
 rw[hX9] at q6 HLX hxs HWD
 have HX09:=AA hX9
 clear hX9
 have hmm:=@run_makeMap Tryz.prog
 go_enter Tryz.func49,Tryz.ntmps49
 go_wp2_with fail
 generalize(w.alloc (.cells #[.slice A N c] 29)).alloc (.cells #[.slice none 0 0] 29)=w1 at*
 refine(HFF.out _).mono ?_
 rintro e w2 ⟨g2,rfl,ho2,hb2⟩
 have HRA:=AA (HRN.out.below hb2)
 have HRQ:=AA (Rd.of_own ho2)
 clear HFF ho2 hb2 HRN
 rw[show(strCells [x0]:List Value)=[.string X0] from by rw[←HX09.out];rfl] at HRQ
 obtain⟨ad,u,hA,hbl,hu,hcu⟩:=HRQ.out.at_ (k:=0) EF
 cases hA
 cases hu
 have c0:w2.cell? ⟨g2,0,none⟩=some (.string X0):=hcu
 clear hcu
 go_wp2_with fail
 go_quiet (fail)
 go_wp2_with fail
 have HRA2:=AA (HRA.out.below (A0d (AI _ _) nq))
 refine(HWD.out _ _ _ (A0c HT.out HRA2.out.b)).mono ?_
 rintro e wq ⟨rfl,hbq⟩
 have HRA:=AA (HRA2.out.below hbq)
 clear HRA2 c0 hbq
 have hm:=MapSI.made wq
 have hb5:Below wq.heap.size wq (wq.alloc (.map #[] 0)):=(AI _ _).alloc (AD _) _
 go_wp2_with ((first|(refine MapSI.insert hm (by unfold maxLen;omega) _ (by unfold maxLen;decide) _ EF rfl _ _ _ rfl rfl rfl rfl ?_;intro w9 hm1 hg1;have hb6:=hb5.grown hg1 hb5.size (fun k hk=>by cases hk;first|exact AD _|exact hbx))|(have hb7:=hb5.alloc hb5.size (.map #[] 0);have hbx:=hb5.size;refine MapSI.insert (MapSI.made w9) (by unfold maxLen;omega) _ (by unfold maxLen;decide) _ EF rfl _ _ _ rfl rfl rfl rfl ?_;intro w9 hm1 hg1;have hb6:=hb7.grown hg1 hb7.size (fun k hk=>by cases hk;exact hbx);clear hb7));clear hm hb5 hg1;have hm:=hm1;have hb5:=hb6;clear hm1 hb6;(first|(have hlk:=(MapSI.ext hm (g:=fK) (fun t=>rfl)).look X0 (by unfold maxLen;omega);rw[HLX.out,HFK.out] at hlk)|(have hlm:=(MapSI.ext hm (g:=fM) (fun t=>rfl)).look X0 (by unfold maxLen;omega);rw[HLX.out,HFM.out] at hlm)|skip))
 clear hm
 go_wp2_with fail
 have HRA:=AA (HRA.out.below hb5)
 clear hb5 hlk hlm
 have hC3:=HRA.out.h.cell0
 have z6:=HRA.out.o.cell0;have z6f:=HRA.out.o.frozen 0
 obtain⟨F1,HF1,hcell10⟩:=cells1 ⟨w.heap.size,0,none⟩ (.slice A N c)
 refine EB [(0,true),(1,false),(2,false),(3,true)] HF1 ?_
 intro hne1
 simp only[A0i,AT,AP,AR]
 repeat(first|((first|refine Dt ?_|refine Du ?_);intro K hK;go_big_quiet_op;go_big_quiet_on)|((first|refine Dv ?_|refine Dw ?_);simp only[Act.put,AB,AE,AF]))
 have HRD:=AA (HRA.out.below ((AI _ _).drew))
 refine A0a ?_
 go_wp2_with fail
 refine(A2f 12 EF EF HT.out HRD.out.b).mono ?_
 rintro e wa ⟨rfl,hba⟩
 have HRB:=AA (HRD.out.below hba)
 have hC3a:=HRB.out.h.cell0
 go_wp2_with fail
 refine ED HF1 ?_ hC3a
 repeat(first|((first|refine Dt ?_|refine Du ?_);intro K hK;go_big_quiet_op;go_big_quiet_on)|((first|refine Dv ?_|refine Dw ?_);simp only[Act.put,AB,AE,AF]))
 have y6:=HRB.out.o.cell0;have y6f:=HRB.out.o.frozen 0
 have hng:w.heap.size≠w.heap.size+1:=EE
 have hng2:¬w.heap.size+1=w.heap.size:=EE
 refine A0a ?_
 go_wp2_with fail
 have hC3b:(wa.setCell ⟨w.heap.size+1,0,none⟩ (.slice A N c)).cell? ⟨w.heap.size,0,none⟩=some (.slice A N c):=(HRB.out.h.far hng _).cell0
 refine ED HF1 ?_ hC3b
 repeat(first|((first|refine Dt ?_|refine Du ?_);intro K hK;go_big_quiet_op;go_big_quiet_on)|((first|refine Dv ?_|refine Dw ?_);simp only[Act.put,AB,AE,AF]))
 refine A0g ?_
 clear HF1 hC3 hC3a hC3b z6 z6f y6 y6f hcell10 hne1
 have zz:=(HRB.out.o.set_ 0 (.slice A N c)).cell0
 go_wp2_with fail
 (apply bodyPost_ret;(simp[results,Tryz.results49,go_sem,zz];rfl);rfl)
 exact A3F HRB.out HNN.out (HEN.out _).1 (HEN.out _).2
 ):P:=h
theorem B9D{P:Prop}(h:P:=by
 exact B9E
 ):P:=h
theorem B9G{P:Prop}(h:P:=by
 obtain⟨ad,hA,hb,_⟩:=HRT.out.2 EF
 cases hA
 exact hb
 ):P:=h
theorem B9I{P:Prop}(h:P:=by
 refine⟨k+1,by omega,by go_num,HAL2.out, ?_,hb6'⟩
 rw[Hid,HMP.out,AJ,Ah,A7j]
 exact hown6
 ):P:=h
theorem B9K{P:Prop}(h:P:=by
 obtain⟨e1,e2⟩:=A9m (P:=rs.map Rc.s) HNK.out HKN.out HSB.out
 exact⟨by rw[e1],e2⟩
 ):P:=h
theorem C1n{P:Prop}(h:P:=by
 have:=(A0p (s:=s) (x:=x0) (by rw[hq];simp)).2
 rw[A0b]
 exact AQ this hf.s
 ):P:=h
theorem B9M{P:Prop}(h:P:=by
 rw[Hid,HSN9.out,List.all_append,HAL.out]
 simpa using hdg
 ):P:=h
theorem C1M{P:Prop}(h:P:=by
 have:=A1M s
 rw[hq,AM,hm9] at this
 have:=hf.s
 omega
 ):P:=h
theorem C1Q{P:Prop}(h:P:=by
 rw[if_neg h11,if_neg h10,if_neg h9,if_neg h8,if_neg h7,if_neg h6,if_neg h5,if_neg h4,if_neg h3,if_neg h2,if_neg h1]
 ):P:=h
theorem B9H{P:Prop}(h:P:=by
 have g5:(E==0)=false:=AH.2 hE
 have g5':(E !=0)=true:=Be.2 hE
 have HEB:=AA (HEA.out.2.1 hE)
 have HEP:=AA HEA.out.2.2
 clear HEA HTL hE
 have HRA:=HRA3
 clear HRA3
 go_wp2_with fail
 clear z3 z3f g5 g5'
 have hC3:=HRA.out.h.cell0
 have z6:=HRA.out.o.cell0;have z6f:=HRA.out.o.frozen 0
 obtain⟨F1,HF1,hcell10⟩:=cells1 ⟨w.heap.size,0,none⟩ (.slice A' N' c')
 refine EB [(0,true),(1,true),(2,false),(3,false),(4,true)] HF1 ?_
 intro hne1
 simp only[A0i,AT,AP,AR]
 repeat(first|((first|refine Dt ?_|refine Du ?_);intro K hK;go_big_quiet_op;go_big_quiet_on)|((first|refine Dv ?_|refine Dw ?_);simp only[Act.put,AB,AE,AF]))
 have HRD:=AA (HRA.out.below ((AI _ _).drew))
 refine A0a ?_
 go_wp2_with fail
 refine(A2f E HRG.out.1 HRG.out.2 HT.out HRD.out.b).mono ?_
 rintro e wa ⟨rfl,hba⟩
 have HRB:=AA (HRD.out.below hba)
 have hC3a:=HRB.out.h.cell0
 go_wp2_with fail
 refine ED HF1 ?_ hC3a
 repeat(first|((first|refine Dt ?_|refine Du ?_);intro K hK;go_big_quiet_op;go_big_quiet_on)|((first|refine Dv ?_|refine Dw ?_);simp only[Act.put,AB,AE,AF]))
 have y6:=HRB.out.o.cell0;have y6f:=HRB.out.o.frozen 0
 have hng:w.heap.size≠w.heap.size+1:=EE
 have hng2:¬w.heap.size+1=w.heap.size:=EE
 refine A0a ?_
 go_wp2_with fail
 have hC3b:(wa.setCell ⟨w.heap.size+1,0,none⟩ (.slice A' N' c')).cell? ⟨w.heap.size,0,none⟩=some (.slice A' N' c'):=(HRB.out.h.far hng _).cell0
 refine ED HF1 ?_ hC3b
 repeat(first|((first|refine Dt ?_|refine Du ?_);intro K hK;go_big_quiet_op;go_big_quiet_on)|((first|refine Dv ?_|refine Dw ?_);simp only[Act.put,AB,AE,AF]))
 refine A0g ?_
 clear HF1 hC3 hC3a hC3b z6 z6f y6 y6f hcell10 hne1
 have zz:=(HRB.out.o.set_ 0 (.slice A' N' c')).cell0
 go_wp2_with fail
 (apply bodyPost_ret;(simp[results,Tryz.results49,go_sem,zz];rfl);rfl)
 exact B2F HRB.out HN9.out (by rw[HEB.out]) (by rw[HM9.out];exact HEP.out.symm)
 ):P:=h
theorem C2D{P:Prop}(h:P:=by
 refine leaves_cons (f:=92) (args:= #[.pointer (some ⟨w.heap.size,0,none⟩)]) EH (by simp[go_sem]) ?_
 refine(A9k w.heap.size _).mono ?_
 rintro e u' w'' ⟨rfl,rfl,rfl⟩
 simp[Leaves,settle,results,Tryz.results48,go_sem,hox]
 exact⟨by rw[HTA.out],by rw[HTB.out];exact hfin⟩
 ):P:=h
theorem B9E{P:Prop}(h:P:=by
 have h:=HRQ.out.2 EH
 obtain⟨ad,hA,_,hc⟩:=h
 cases hA
 rw[←HX09.out]
 exact hc 0 _ rfl
 ):P:=h
theorem kind8(x0:List UInt8)(r:List (List UInt8))(A:Option Addr):((dkD x0 r A).kind=8)↔((dkN x0).1=8):=by
 show((((dkN x0).1:Nat):Int)=8)↔_
 omega
theorem B0E(P:List Ps):dkT P [A0O]=58::Lib.join (hsN P) [32]:=by unfold dkT;dsimp only;rw[if_pos ⟨rfl,rfl⟩]
theorem B0F(P:List Ps):dkP P [A0O]=P:=by unfold dkP;dsimp only;rw[if_pos ⟨rfl,rfl⟩]
theorem A9l{P:List Ps}{x0:List UInt8}{r:List (List UInt8)}(h1:¬(x0=A0O∧r=[]))(hk:(dkN x0).1=0):dkT P (x0::r)=(if askE x0 r=0 then askT x0 r else errB (askE x0 r))∧dkP P (x0::r)=P:=by
 unfold dkT dkP
 dsimp only
 rw[if_neg h1,if_neg h1,if_pos hk,if_pos hk]
 exact⟨rfl,rfl⟩
theorem A9m{P:List Ps}{x0:List UInt8}{r:List (List UInt8)}(h1:¬(x0=A0O∧r=[]))(hk:(dkN x0).1≠0)(hs:dkS x0 r=false):dkT P (x0::r)=errB 12∧dkP P (x0::r)=P:=by
 unfold dkT dkP
 dsimp only
 rw[if_neg h1,if_neg h1,if_neg hk,if_neg hk,if_pos hs,if_pos hs]
 exact⟨rfl,rfl⟩
theorem A3T{P:List Ps}{x0:List UInt8}{r:List (List UInt8)}(A:Option Addr)(h1:¬(x0=A0O∧r=[]))(hk:(dkN x0).1≠0)(hs:¬dkS x0 r=false):
 (hsE P (dkD x0 r A)=0→dkT P (x0::r)=if(dkD x0 r A).kind=8 then 58::L (hsT P (dkD x0 r A)) else [111,107])∧(hsE P (dkD x0 r A)≠0→dkT P (x0::r)=errB (hsE P (dkD x0 r A)))∧dkP P (x0::r)=hsP P (dkD x0 r A):=by
 obtain⟨e1,e2,e3⟩:=hs_any P x0 r A
 unfold dkT dkP
 dsimp only
 rw[if_neg h1,if_neg h1,if_neg hk,if_neg hk,if_neg hs,if_neg hs,e1,e2,e3]
 refine⟨fun h=> ?_,fun h=>by rw[if_neg h],rfl⟩
 rw[if_pos h]
 by_cases h8:(dkN x0).1=8
 ·rw[if_pos h8,if_pos ((kind8 x0 r A).2 h8)]
 ·rw[if_neg h8,if_neg (fun h=>h8 ((kind8 x0 r A).1 h))]
abbrev AnsTo(w:World)(base gh:Nat)(v:Value)(ps:List Pc)(l:List (List UInt8)):Ending→World→Prop:=fun e w'=>e= .returned (.string (S (dkT (ps.map Pc.s) l)))∧HsTo w w' base gh v ps (dkP (ps.map Pc.s) l)
theorem B4Z(s:ByteArray)(mx:Int)(gh gd:Nat)(v:Value)(ps:List Pc)(w0 w:World)(hD:DkAt w w0.heap.size gh gd v ps)(h0:Below w0.heap.size w0 w)(hnm:NmOk (ps.map Pc.s))(hs:s.size≤4096)(ht:TabI w0)(hm:w0.cell? ⟨0,0,none⟩=some (.int .i64 mx))(hw0:0<w0.heap.size):
 Calls Tryz.prog 48 #[.pointer (some ⟨gd,0,none⟩),.string s] w (AnsTo w w0.heap.size gh v ps (wds (L s))):=by
 obtain⟨i0,hi0,hz0,hz1,hz2⟩:=info_parts A2C
 have hmf:∀(fn:Fn) (first cap:Array Value) (w:World),(Instr.makeFunc fn first cap).run Tryz.prog w= .ok (.func fn first cap) w:=fun _ _ _ _=>rfl
 have HSP:=AA (fun W (hb:Below w.heap.size w W)=>Tryz.strings_Split s ⟨#[32]⟩ mx W EE ((hb.cell (p:=⟨0,0,none⟩) (AO hw0 h0.size)).trans ((h0.cell (p:=⟨0,0,none⟩) hw0).trans hm)) EF)
 rw[←B3U] at HSP
 rw[B7h] at HSP
 have HPL:=AA (B7e s)
 have HEL:=AA (fun x (h:x∈pcs s)=>B7g h)
 have HWD:=AA (A9O s)
 have HWE:=AA (fun x (h:x∈wds (L s))=>A0p h)
 have HWL:=AA (A1M s)
 have HD:=AA hD
 have HNMO:=AA hnm
 have HT:=AA ht
 have H0:=AA h0
 clear hD hnm ht hm hw0 h0
 go_enter_defers Tryz.func48,Tryz.ntmps48
 go_wp2_with fail
 have hb1:Below w.heap.size w (w.alloc (.cells #[.string ⟨#[]⟩] 9)):=Ds
 have hO1:Blk (w.alloc (.cells #[.string ⟨#[]⟩] 9)) w.heap.size 9 #[.string ⟨#[]⟩]:=Blk.new_ _ _ _
 generalize w.alloc (.cells #[.string ⟨#[]⟩] 9)=w1 at*
 refine(HSP.out _ hb1).mono ?_
 rintro e w2 ⟨rfl,hw2⟩
 have hb2:Below w1.heap.size w1 w2:=by rw[hw2];exact(AI _ _).alloc (AD _) _
 have hrd2:Rd w2 w2.heap.size 1 (some ⟨w1.heap.size,0,none⟩) (pcs s).length (strCells (pcs s)):=by
  rw[hw2]
  have:=Rd.new_ w1 (strCells (pcs s)).toArray 9 (B:=(w1.alloc (.cells (strCells (pcs s)).toArray 9)).heap.size) (size:=1) (n:=(pcs s).length) EH (by simp[strCells])
  simpa using this
 have HB02:=AA (hb1.trans (hb2.mono hb1.size))
 have HO2:=AA (hO1.below' hb2)
 have HR2:=AA hrd2
 have hnl:=HPL.out
 obtain⟨n,hn⟩:∃n,(pcs s).length=n:=⟨_,rfl⟩
 rw[hn] at HR2 hnl⊢
 have HN:=AA hn
 generalize w1.heap.size=g1 at*
 clear hw2 hb2 hb1 hO1 hrd2 hn HSP HPL
 go_wp2_with fail
 go_loopw [5,14] (fun ov iv wr=>∃(k:Nat) (q:List (List UInt8)),k≤n∧iv= .int .i64 (k:Int)∧Hid (q=((pcs s).take k).filter (fun x=>decide (x≠ [])))∧q.length≤k∧Hid (wr.ownsRow w2.heap.size 9 1 ov q.length (strCells q))∧Below w2.heap.size w2 wr) (fun _ iv _=>n-(intOf iv).toNat)
 case atStart=>exact⟨0,[],AS _,rfl,by rw[Hid,Bs];rfl,AD _,Ad _ _ _ _,AI _ _⟩
 case round=>
  obtain⟨k,q,hk,rfl,HQ,hqk,HOWN,hb⟩:=hrel
  have hbs:=hb.size
  by_cases hlt:k<n
  ·have g3:decide ((k:Int)<(n:Int))=true:=AG EE
   have g3':decide (k<n)=true:=AG hlt
   obtain⟨ad,had,hab,hcx⟩:=A2t (HR2.out.below hb) hlt
   obtain rfl:=Aw had
   have hadd:(⟨g1,0,none⟩:Addr).add k=⟨g1,k,none⟩:=by unfold Addr.add;split<;>simp_all
   rw[hadd] at hcx
   clear hadd had
   have HKL:Hid (k<(pcs s).length):=by rw[Hid,HN.out];exact hlt
   have HSN:=AA (B3m HKL.out)
   have HGD:Hid ((pcs s).getD k []=(pcs s)[k]'HKL.out):=by rw[Hid,AK,AL HKL.out];rfl
   rw[HGD.out] at hcx
   generalize(pcs s)[k]'HKL.out=x at*
   have HEQ:Hid ((S x).toList=x):=by rw[Hid,Ap];rfl
   by_cases hx0:x=[]
   ·have e1:(S x).toList.isEmpty=true:=by rw[HEQ.out,hx0];rfl
    have e2:((S x).toList==[])=true:=by rw[HEQ.out,hx0];rfl
    have e3:((S x).toList !=[])=false:=by rw[HEQ.out,hx0];rfl
    have HQ2:Hid (q=((pcs s).take (k+1)).filter (fun x=>decide (x≠ []))):=by rw[Hid,HSN.out,if_pos hx0,Aq];exact HQ.out
    clear HEQ HSN HGD hx0
    generalize S x=X at*
    go_wp2_with fail
    go_roundw
    case rel=>exact⟨k+1,q,by omega,by go_num,HQ2.out,by omega,HOWN,hb⟩
    case measure=>simp[intOf];omega
   ·have e1:(S x).toList.isEmpty=false:=by rw[HEQ.out];simpa using hx0
    have e2:((S x).toList==[])=false:=by rw[HEQ.out];simpa using hx0
    have e3:((S x).toList !=[])=true:=by rw[HEQ.out];simpa using hx0
    have HQ2:Hid (q++ [x]=((pcs s).take (k+1)).filter (fun x=>decide (x≠ []))):=by rw[Hid,HSN.out,if_neg hx0,HQ.out]
    clear HEQ HSN HGD hx0
    go_wp2_with (at_builtin;go_must (refine A0r rfl _ _ _ rfl w2.heap.size 9 i0 _ 1 16 Tryz.underlying25 hi0 hz0 hz1 hz2 rfl EE _ q.length (strCells q) rfl (BE (w:=wr) HOWN.out _) ⟨wr.heap.size,0,none⟩ 1 1 [.string (S x)] rfl rfl (BL _ _ _) (by simp[Value.oneCell']) EE EE (by have:=(hb).size;simp at this⊢;omega) ?_);intro v6 w6 hown6 hg6 hb6;have hb6':=((hb).alloc (hb).size _).trans hb6)
    clear hg6 hb6
    go_roundw
    case rel=>
     refine⟨k+1,q++ [x],by omega,by go_num,HQ2.out,by simp;omega, ?_,hb6'⟩
     rw[Hid,AJ,Ah,←A3v]
     exact hown6
    case measure=>simp[intOf];omega
  ·obtain rfl:k=n:=EE
   have g3:decide ((k:Int)<(k:Int))=false:=AC EE
   obtain rfl:q=wds (L s):=by
    have h:=HQ.out
    rw[←HN.out,BJ,HWD.out] at h
    exact h
   have HB0:=AA (HB02.out.trans (hb.mono HB02.out.size))
   have HOR:=AA (HO2.out.below' hb)
   have HB00:=AA (H0.out.trans (HB0.out.mono H0.out.size))
   obtain⟨A,c,rfl,hnc,_,hrq⟩:=A1e HOWN.out
   have HRQ:=AA hrq
   clear hrq HOWN HQ hqk hb hbs HR2 HN HEL HWD hnl HB02 HO2
   generalize wds (L s)=q at*
   have HMU:=AA (fun W=>A1f 12 EF W)
   cases q with
   |nil=>
    rw[show([]:List (List UInt8)).length=0 from rfl]
    go_wp2_with fail
    refine(HMU.out _).mono ?_
    rintro e w5 ⟨rfl,rfl⟩
    go_wp2_with fail
    refine leaves_cons (f:=92) (args:= #[.pointer (some ⟨w.heap.size,0,none⟩)]) EH (by simp[go_sem]) ?_
    refine(A4F w.heap.size _ 12 w0 _ ⟨by decide,by decide⟩ HOR.out.cell0 (HOR.out.frozen 0) HOR.out.lt HT.out HB00.out).mono ?_
    rintro e u' w'' ⟨rfl,rfl,wx,hbx,rfl⟩
    have hox:=((HOR.out.below' hbx).set_ 0 (.string (S (errB 12)))).cell 0
    simp[Leaves,settle,results,Tryz.results48,go_sem,hox]
    exact⟨rfl,(HsTo.same (HD.out.h.below HB0.out) (AI _ _)).fin HD.out.h HB0.out hbx (AD _) HOR.out.lt _⟩
   |cons x0 r=>
    have HRQ2:=AA HRQ.out
    obtain⟨b,o,rfl,hbl,hc9⟩:=(A5J HRQ.out EH).2
    have c0:=hc9 0 EH
    simp only[CN,Ae] at c0
    have HC9:=AA hc9
    clear hc9
    by_cases h1:x0=A0O∧r=[]
    ·obtain⟨rfl,rfl⟩:=h1
     have q6:((S A0O).toList==[110,97,109,101,115])=true:=by rw[eqk];decide
     generalize S A0O=X0 at*
     rw[show([A0O]:List (List UInt8)).length=1 from rfl]
     have hd0:=(HD.out.below HB0.out).b.cell0
     have HNM:=AA (B2m w0.heap.size gh v ps _ (HD.out.h.below HB0.out) (by have:=HD.out.o.n;rwa[AW] at this))
     clear HMU
     go_wp2_with fail
     refine HNM.out.mono ?_
     rintro e w4 ⟨u4,rfl,ho4,hb4⟩
     obtain⟨A4,c4,rfl,hnc4,_,hrd4⟩:=OwnO.form ho4
     have HB4:=AA (HB0.out.trans (hb4.mono HB0.out.size))
     have HOR4:=AA (HOR.out.below' hb4)
     have HJN:=AA (B4x _ A4 ps.length c4 _ _ hrd4 (AD _) hnc4 (by have:=HD.out.o.n;rw[AW] at this;omega) (AQ (A6B HNMO.out HD.out.o.n) EF))
     have hjs:(S (Lib.join (hsN (ps.map Pc.s)) [32])).size≤54:=by rw[A0b];exact A6B HNMO.out HD.out.o.n
     have HJE:Hid ((⟨#[58]⟩:ByteArray)++S (Lib.join (hsN (ps.map Pc.s)) [32])=S (dkT (ps.map Pc.s) [A0O])):=by
      rw[Hid,B0E,A1i];rfl
     clear ho4 hrd4 hb4 hd0 c0 q6 HNM
     generalize S (Lib.join (hsN (ps.map Pc.s)) [32])=J at*
     go_wp2_with fail
     refine HJN.out.mono ?_
     rintro e w5 ⟨rfl,hb5⟩
     have HB5:=AA (HB4.out.trans (hb5.mono HB4.out.size))
     have HOR5:=AA (HOR4.out.below' hb5)
     have z0:=HOR5.out.cell 0;have z1:=HOR5.out.frozen 0
     clear HJN
     go_wp2_with fail
     clear z0 z1
     have hfin:HsTo w (w5.setCell ⟨w.heap.size,0,none⟩ (.string (⟨#[58]⟩++J))) w0.heap.size gh v ps (dkP (ps.map Pc.s) [A0O]):=by
      rw[B0F]
      exact(HsTo.same (HD.out.h.below HB5.out) (AI _ _)).fin HD.out.h HB5.out (AI _ _) (AD _) HOR5.out.lt _
     have hox:=(HOR5.out.set_ 0 (.string (⟨#[58]⟩++J))).cell 0
     refine leaves_cons (f:=92) (args:= #[.pointer (some ⟨w.heap.size,0,none⟩)]) EH (by simp[go_sem]) ?_
     refine(A9k w.heap.size _).mono ?_
     rintro e u' w'' ⟨rfl,rfl,rfl⟩
     simp[Leaves,settle,results,Tryz.results48,go_sem,hox]
     exact⟨by rw[HJE.out],hfin⟩
    ·obtain⟨m,hmm⟩:∃m,r.length+1=m:=⟨_,rfl⟩
     have HMM:=AA hmm
     have hm0:0<m:=EE
     have hxl:∀x∈x0::r,x≠ []∧x.length≤4096:=fun x hx=>⟨(HWE.out x hx).1,AQ (HWE.out x hx).2 hs⟩
     have HDE:=AA (B8t x0 r b o c w0.heap.size gh gd v ps _ (HD.out.below HB0.out) hbl (A0c HT.out HB00.out) (fun x hx=>(hxl x (by simp[hx])).2) HC9.out)
     rw[hmm] at HDE
     have HAK:=AA (fun W (hb:Below wr.heap.size wr W)=>B6V x0 r b o c W (AO hbl hb.size) (A0c HT.out (HB00.out.trans (hb.mono HB00.out.size))) (fun x hx=>(hxl x (by simp[hx])).1) (fun j hj=>(hb.cell (p:=⟨b,o+j,none⟩) hbl).trans (HC9.out j hj)))
     rw[hmm] at HAK
     have g5:((m:Int)==0)=false:=by rw[AH];omega
     have g5':(m==0)=false:=by rw[AH];omega
     rw[show(x0::r).length=m from hmm]
     clear HMU HC9 HRQ HRQ2 hxl hmm HWE HWL
     by_cases hr:r=[]
     ·have q6:((S x0).toList==[110,97,109,101,115])=false:=by rw[eqk];exact AC (fun h=>h1 ⟨h,hr⟩)
      obtain rfl:m=1:=by rw[←HMM.out,hr];rfl
      exact C0s
     ·have g6:((m:Int)==1)=false:=by
       rw[AH]
       have:=BO.2 hr
       have:=HMM.out
       omega
      have g6':(m==1)=false:=by
       rw[AH]
       have:=BO.2 hr
       have:=HMM.out
       omega
      exact C0s
def fK:List UInt8→Option Int:=fun t=>if t=L (⟨#[109,97,107,101]⟩:ByteArray) then some 10 else if t=L (⟨#[100,114,111,112]⟩:ByteArray) then some 9 else if t=L (⟨#[116,101,120,116]⟩:ByteArray) then some 8 else if t=L (⟨#[99,114,97,115,104]⟩:ByteArray) then some 7 else if t=L (⟨#[112,97,99,107]⟩:ByteArray) then some 6 else if t=L (⟨#[115,97,118,101]⟩:ByteArray) then some 5 else if t=L (⟨#[114,101,100,111]⟩:ByteArray) then some 4 else if t=L (⟨#[117,110,100,111]⟩:ByteArray) then some 3 else if t=L (⟨#[99,117,116]⟩:ByteArray) then some 2 else if t=L (⟨#[101,100,105,116]⟩:ByteArray) then some 2 else if t=L (⟨#[110,101,119]⟩:ByteArray) then some 1 else none
def fM:List UInt8→Option Int:=fun t=>if t=L (⟨#[109,97,107,101]⟩:ByteArray) then some 2 else if t=L (⟨#[100,114,111,112]⟩:ByteArray) then some 1 else if t=L (⟨#[116,101,120,116]⟩:ByteArray) then some 1 else if t=L (⟨#[99,114,97,115,104]⟩:ByteArray) then some 2 else if t=L (⟨#[112,97,99,107]⟩:ByteArray) then some 2 else if t=L (⟨#[115,97,118,101]⟩:ByteArray) then some 1 else if t=L (⟨#[114,101,100,111]⟩:ByteArray) then some 1 else if t=L (⟨#[117,110,100,111]⟩:ByteArray) then some 1 else if t=L (⟨#[99,117,116]⟩:ByteArray) then some 3 else if t=L (⟨#[101,100,105,116]⟩:ByteArray) then some 4 else if t=L (⟨#[110,101,119]⟩:ByteArray) then some 2 else none
theorem B3V{x:List UInt8}(h:(dkN x).1=0):fK x=none:=by
 have h1:x≠kNew:=fun e=>by subst e;revert h;decide
 have h2:x≠A0u:=fun e=>by subst e;revert h;decide
 have h3:x≠kCut:=fun e=>by subst e;revert h;decide
 have h4:x≠A0Q:=fun e=>by subst e;revert h;decide
 have h5:x≠A0J:=fun e=>by subst e;revert h;decide
 have h6:x≠A0E:=fun e=>by subst e;revert h;decide
 have h7:x≠A0o:=fun e=>by subst e;revert h;decide
 have h8:x≠A0j:=fun e=>by subst e;revert h;decide
 have h9:x≠A0y:=fun e=>by subst e;revert h;decide
 have h10:x≠A0w:=fun e=>by subst e;revert h;decide
 have h11:x≠A0V:=fun e=>by subst e;revert h;decide
 show(if x=A0V then some (10:Int) else if x=A0w then some (9:Int) else if x=A0y then some (8:Int) else if x=A0j then some (7:Int) else if x=A0o then some (6:Int) else if x=A0E then some (5:Int) else if x=A0J then some (4:Int) else if x=A0Q then some (3:Int) else if x=kCut then some (2:Int) else if x=A0u then some (2:Int) else if x=kNew then some (1:Int) else none)=none
 exact C1Q
theorem B3W{x:List UInt8}(h:(dkN x).1=0):fM x=none:=by
 have h1:x≠kNew:=fun e=>by subst e;revert h;decide
 have h2:x≠A0u:=fun e=>by subst e;revert h;decide
 have h3:x≠kCut:=fun e=>by subst e;revert h;decide
 have h4:x≠A0Q:=fun e=>by subst e;revert h;decide
 have h5:x≠A0J:=fun e=>by subst e;revert h;decide
 have h6:x≠A0E:=fun e=>by subst e;revert h;decide
 have h7:x≠A0o:=fun e=>by subst e;revert h;decide
 have h8:x≠A0j:=fun e=>by subst e;revert h;decide
 have h9:x≠A0y:=fun e=>by subst e;revert h;decide
 have h10:x≠A0w:=fun e=>by subst e;revert h;decide
 have h11:x≠A0V:=fun e=>by subst e;revert h;decide
 show(if x=A0V then some (2:Int) else if x=A0w then some (1:Int) else if x=A0y then some (1:Int) else if x=A0j then some (2:Int) else if x=A0o then some (2:Int) else if x=A0E then some (1:Int) else if x=A0J then some (1:Int) else if x=A0Q then some (1:Int) else if x=kCut then some (3:Int) else if x=A0u then some (4:Int) else if x=kNew then some (2:Int) else none)=none
 exact C1Q
theorem A9P{x:List UInt8}(h:(dkN x).1≠0):fK x=some ((dkN x).1:Int)∧fM x=some (((dkN x).2-1:Nat):Int)∧0<(dkN x).1∧2≤(dkN x).2:=by
 rcases A6C h with e|e|e|e|e|e|e|e|e|e|e<;>subst e<;>decide
theorem A1S{x:List UInt8}(h:(dkN x).1≠0)(n:Nat):askK x n=0:=by
 have:askN x=(0,0):=by
  rcases A6C h with e|e|e|e|e|e|e|e|e|e|e<;>subst e<;>decide
 unfold askK
 rw[this]
 split<;>rfl
theorem B0G(x:List UInt8):askK x 0=0:=by
 refine Decidable.byContradiction fun h=> ?_
 rcases A4Q h with⟨h,_⟩|⟨h,_⟩<;>omega
def A2h(w:World)(K:Nat→Prop)(rs:List Rc)(l:List (List UInt8))(e:Ending)(w':World):Prop:=
 ∃A' c' rs',e= .returned (.tuple #[.agg #[.slice A' rs'.length c'],.string (S (dkT (rs.map Rc.s) l))])∧rs'.map Rc.s=dkP (rs.map Rc.s) l∧RhAt w' K A' c' rs'∧Below w.heap.size w w'
def KK(w:World)(K:Nat→Prop)(k:Nat):Prop:=K k∨k=w.heap.size∨k=w.heap.size+1
structure RaAt (w W:World) (K:Nat→Prop) (A:Option Addr) (N c:Nat) (rs:List Rc):Prop where
 b:Below w.heap.size w W
 r:RhAt W (KK w K) A c rs
 h:Blk W w.heap.size 29 #[.slice A N c]
 o:Blk W (w.heap.size+1) 29 #[.slice none 0 0]
section
variable {w W W':World} {K:Nat→Prop} {A:Option Addr} {N c:Nat} {rs:List Rc}
theorem RaAt.below(h:RaAt w W K A N c rs)(hb:Below W.heap.size W W'):RaAt w W' K A N c rs:=⟨h.b.trans (hb.mono h.b.size),h.r.below hb,h.h.below' hb,h.o.below' hb⟩
theorem RaAt.new_(hr:RhAt w K A c rs)(N:Nat):RaAt w ((w.alloc (.cells #[.slice A N c] 29)).alloc (.cells #[.slice none 0 0] 29)) K A N c rs:=by
 have hb1:Below w.heap.size w (w.alloc (.cells #[.slice A N c] 29)):=(AI _ _).alloc (AD _) _
 have hb2:Below w.heap.size w ((w.alloc (.cells #[.slice A N c] 29)).alloc (.cells #[.slice none 0 0] 29)):=hb1.alloc hb1.size _
 refine⟨hb2,(hr.mono (K':=KK w K) (fun k hk=> ?_)).below hb2,(Blk.new_ _ _ _).alloc _, ?_⟩
 ·rcases hk with h|h|h
  ·exact .inl h
  ·exact .inr EE
  ·exact .inr EE
 have:=Blk.new_ (w.alloc (.cells #[.slice A N c] 29)) 29 #[.slice none 0 0]
 rwa[Ar] at this
theorem RaAt.lay(h:RaAt w W K A N c rs)(v:Value):RhAt (W.setCell ⟨w.heap.size+1,0,none⟩ v) K A c rs∧Below w.heap.size w (W.setCell ⟨w.heap.size+1,0,none⟩ v):=by
 have hc:Chg W (W.setCell ⟨w.heap.size+1,0,none⟩ v) (KK w K):=(Chg.setH W _ _).monoH (fun k _ hk=> .inr (.inr hk))
 exact⟨(h.r.chg hc).mono (fun k hk=> .inl (.inl hk)),h.b.setCell EH _⟩
theorem A3F(h:RaAt w W K A N c rs)(hn:rs.length=N){l:List (List UInt8)}{T:ByteArray}(h1:S (dkT (rs.map Rc.s) l)=T)(h2:dkP (rs.map Rc.s) l=rs.map Rc.s):
 A2h w K rs l (.returned (.tuple #[.agg #[.slice A N c],.string T])) (W.setCell ⟨w.heap.size+1,0,none⟩ (.slice A N c)):=by
 obtain⟨h3,h4⟩:=h.lay (.slice A N c)
 exact⟨A,c,rs,by rw[h1,hn],h2.symm,h3,h4⟩
end
structure RaOk (w:World) (K:Nat→Prop) (A:Option Addr) (c:Nat) (rs:List Rc) (s:ByteArray):Prop where
 r:RhAt w K A c rs
 k:∀k,K k→k<w.heap.size
 o:HsOk (rs.map Rc.s)
 n:NmOk (rs.map Rc.s)
 s:s.size≤4096
 t:TabI w
 m:∃mx,w.cell? ⟨0,0,none⟩=some (.int .i64 mx)
 g:0<w.heap.size
theorem B8u(s:ByteArray)(A:Option Addr)(c:Nat)(rs:List Rc)(K:Nat→Prop)(w:World)(hf:RaOk w K A c rs s)(hq:wds (L s)=[]):
 Calls Tryz.prog 49 #[.agg #[.slice A rs.length c],.string s,.func (.func 10) #[] #[]] w (A2h w K rs []):=by
 have HFF:=AA (fun W=>A1h s W hf.s)
 have HWE:=AA (fun x (h:x∈wds (L s))=>A0p h)
 have HWL:=AA (A1M s)
 have hss:=hf.s
 have HT:=AA hf.t
 have HO:=AA hf.o
 have HNM:=AA hf.n
 have HKW:=AA hf.k
 have HMX:=AA hf.m
 have HG0:=AA hf.g
 obtain⟨N,hN⟩:∃N,rs.length=N:=⟨_,rfl⟩
 have HRN:=AA (RaAt.new_ hf.r N)
 have HNN:=AA hN
 rw[hN]
 clear hf hN
 rw[hq] at HFF HWE HWL
 clear hq
 go_enter Tryz.func49,Tryz.ntmps49
 go_wp2_with fail
 generalize(w.alloc (.cells #[.slice A N c] 29)).alloc (.cells #[.slice none 0 0] 29)=w1 at*
 refine(HFF.out _).mono ?_
 rintro e w2 ⟨g2,rfl,ho2,hb2⟩
 have HRA:=AA (HRN.out.below hb2)
 have HRQ:=AA (Rd.of_own ho2)
 clear HFF ho2 hb2 HRN
 rw[show([]:List (List UInt8)).length=0 from rfl]
 go_wp2_with fail
 have hC3:=HRA.out.h.cell0
 have z6:=HRA.out.o.cell0;have z6f:=HRA.out.o.frozen 0
 obtain⟨F1,HF1,hcell10⟩:=cells1 ⟨w.heap.size,0,none⟩ (.slice A N c)
 refine EB [(0,true),(1,false),(2,false),(3,true)] HF1 ?_
 intro hne1
 simp only[A0i,AT,AP,AR]
 repeat(first|((first|refine Dt ?_|refine Du ?_);intro K hK;go_big_quiet_op;go_big_quiet_on)|((first|refine Dv ?_|refine Dw ?_);simp only[Act.put,AB,AE,AF]))
 have HRD:=AA (HRA.out.below ((AI _ _).drew))
 refine A0a ?_
 go_wp2_with fail
 refine(A2f 12 EF EF HT.out HRD.out.b).mono ?_
 rintro e wa ⟨rfl,hba⟩
 have HRB:=AA (HRD.out.below hba)
 have hC3a:=HRB.out.h.cell0
 go_wp2_with fail
 refine ED HF1 ?_ hC3a
 repeat(first|((first|refine Dt ?_|refine Du ?_);intro K hK;go_big_quiet_op;go_big_quiet_on)|((first|refine Dv ?_|refine Dw ?_);simp only[Act.put,AB,AE,AF]))
 have y6:=HRB.out.o.cell0;have y6f:=HRB.out.o.frozen 0
 have hng:w.heap.size≠w.heap.size+1:=EE
 have hng2:¬w.heap.size+1=w.heap.size:=EE
 refine A0a ?_
 go_wp2_with fail
 have hC3b:(wa.setCell ⟨w.heap.size+1,0,none⟩ (.slice A N c)).cell? ⟨w.heap.size,0,none⟩=some (.slice A N c):=(HRB.out.h.far hng _).cell0
 refine ED HF1 ?_ hC3b
 repeat(first|((first|refine Dt ?_|refine Du ?_);intro K hK;go_big_quiet_op;go_big_quiet_on)|((first|refine Dv ?_|refine Dw ?_);simp only[Act.put,AB,AE,AF]))
 refine A0g ?_
 clear HF1 hC3 hC3a hC3b z6 z6f y6 y6f hcell10 hne1
 have zz:=(HRB.out.o.set_ 0 (.slice A N c)).cell0
 go_wp2_with fail
 (apply bodyPost_ret;(simp[results,Tryz.results49,go_sem,zz];rfl);rfl)
 exact A3F HRB.out HNN.out rfl rfl
theorem B8v(s:ByteArray)(A:Option Addr)(c:Nat)(rs:List Rc)(K:Nat→Prop)(w:World)(hf:RaOk w K A c rs s)(hq:wds (L s)=[A0O]):
 Calls Tryz.prog 49 #[.agg #[.slice A rs.length c],.string s,.func (.func 10) #[] #[]] w (A2h w K rs [A0O]):=by
 have q6:((S A0O).toList==[110,97,109,101,115])=true:=by rw[eqk];decide
 have HFF:=AA (fun W=>A1h s W hf.s)
 have HWE:=AA (fun x (h:x∈wds (L s))=>A0p h)
 have HWL:=AA (A1M s)
 have hss:=hf.s
 have HT:=AA hf.t
 have HO:=AA hf.o
 have HNM:=AA hf.n
 have HKW:=AA hf.k
 have HMX:=AA hf.m
 have HG0:=AA hf.g
 obtain⟨N,hN⟩:∃N,rs.length=N:=⟨_,rfl⟩
 have HRN:=AA (RaAt.new_ hf.r N)
 have HNN:=AA hN
 rw[hN]
 clear hf hN
 rw[hq] at HFF HWE HWL
 clear hq
 go_enter Tryz.func49,Tryz.ntmps49
 go_wp2_with fail
 generalize(w.alloc (.cells #[.slice A N c] 29)).alloc (.cells #[.slice none 0 0] 29)=w1 at*
 refine(HFF.out _).mono ?_
 rintro e w2 ⟨g2,rfl,ho2,hb2⟩
 have HRA:=AA (HRN.out.below hb2)
 have HRQ:=AA (Rd.of_own ho2)
 clear HFF ho2 hb2 HRN
 obtain⟨b,o,hbe,hbl,hc9⟩:=(A5J HRQ.out EH).2
 cases hbe
 have c0:=hc9 0 EH
 simp only[CN,Ae] at c0
 have HC9:=AA hc9
 rw[show([A0O]:List (List UInt8)).length=1 from rfl]
 generalize S A0O=X0 at*
 go_wp2_with fail
 go_quiet (fail)
 go_wp2_with fail
 have HRA:=AA (HRA.out.below (A0d (AI _ _) nq))
 have hn6:rs.length≤6:=by have:=HO.out.n;rwa[AW] at this
 have hNN:=HNN.out
 have HNM9:=AA (fun W hr=>B2n rs A c (KK w K) W hr hn6)
 rw[hNN] at HNM9
 have hjs:(S (Lib.join (hsN (rs.map Rc.s)) [32])).size≤54:=by rw[A0b];exact A6B HNM.out HO.out.n
 have HJW:=AA (fun(W:World) A4 c4 (hrd:Rd W W.heap.size 1 A4 N (strCells (hsN (rs.map Rc.s)))) (hn:N≤c4)=>B4x (hsN (rs.map Rc.s)) A4 N c4 _ W hrd (AD _) hn EE (AQ (A6B HNM.out HO.out.n) EF))
 have HJE:Hid (S (dkT (rs.map Rc.s) [A0O])=(⟨#[58]⟩:ByteArray)++S (Lib.join (hsN (rs.map Rc.s)) [32])):=by
  rw[Hid,B0E,A1i];rfl
 generalize S (Lib.join (hsN (rs.map Rc.s)) [32])=J at*
 clear hNN hn6
 have hC3:=HRA.out.h.cell0
 obtain⟨F1,HF1,hcell10⟩:=cells1 ⟨w.heap.size,0,none⟩ (.slice A N c)
 refine EB [(0,true),(1,true),(2,false),(3,false),(4,true),(5,false),(6,true)] HF1 ?_
 intro hne1
 simp only[A0i,AT,AP,AR]
 repeat(first|((first|refine Dt ?_|refine Du ?_);intro K hK;go_big_quiet_op;go_big_quiet_on)|((first|refine Dv ?_|refine Dw ?_);simp only[Act.put,AB,AE,AF]))
 have HRD:=AA (HRA.out.below ((AI _ _).drew))
 refine A0a ?_
 go_wp2_with fail
 refine(HNM9.out _ HRD.out.r).mono ?_
 rintro e wa ⟨u,rfl,hoa,hba⟩
 obtain⟨A4,c4,rfl,hnc4,_,hrd4⟩:=OwnO.form hoa
 have HRB:=AA (HRD.out.below hba)
 have hC3a:=HRB.out.h.cell0
 go_wp2_with fail
 refine ED HF1 ?_ hC3a
 repeat(first|((first|refine Dt ?_|refine Du ?_);intro K hK;go_big_quiet_op;go_big_quiet_on)|((first|refine Dv ?_|refine Dw ?_);simp only[Act.put,AB,AE,AF]))
 refine A0a ?_
 go_wp2_with fail
 refine(HJW.out _ A4 c4 hrd4 hnc4).mono ?_
 rintro e wb ⟨rfl,hbb⟩
 have HRC:=AA (HRB.out.below hbb)
 have hC3b:=HRC.out.h.cell0
 go_wp2_with fail
 refine ED HF1 ?_ hC3b
 repeat(first|((first|refine Dt ?_|refine Du ?_);intro K hK;go_big_quiet_op;go_big_quiet_on)|((first|refine Dv ?_|refine Dw ?_);simp only[Act.put,AB,AE,AF]))
 have y6:=HRC.out.o.cell0;have y6f:=HRC.out.o.frozen 0
 have hng:w.heap.size≠w.heap.size+1:=EE
 have hng2:¬w.heap.size+1=w.heap.size:=EE
 refine A0a ?_
 go_wp2_with fail
 have hC3c:(wb.setCell ⟨w.heap.size+1,0,none⟩ (.slice A N c)).cell? ⟨w.heap.size,0,none⟩=some (.slice A N c):=(HRC.out.h.far hng _).cell0
 refine ED HF1 ?_ hC3c
 repeat(first|((first|refine Dt ?_|refine Du ?_);intro K hK;go_big_quiet_op;go_big_quiet_on)|((first|refine Dv ?_|refine Dw ?_);simp only[Act.put,AB,AE,AF]))
 refine A0g ?_
 clear HF1 hC3 hC3a hC3b hC3c y6 y6f hcell10 hne1 HNM9 HJW
 have zz:=(HRC.out.o.set_ 0 (.slice A N c)).cell0
 go_wp2_with fail
 (apply bodyPost_ret;(simp[results,Tryz.results49,go_sem,zz];rfl);rfl)
 exact A3F HRC.out HNN.out HJE.out (B0F _)
theorem ra_one(s:ByteArray)(A:Option Addr)(c:Nat)(rs:List Rc)(K:Nat→Prop)(w:World)(hf:RaOk w K A c rs s)(x0:List UInt8)(hx0:x0≠A0O)(hq:wds (L s)=[x0]):
 Calls Tryz.prog 49 #[.agg #[.slice A rs.length c],.string s,.func (.func 10) #[] #[]] w (A2h w K rs [x0]):=by
 have q6:((S x0).toList==[110,97,109,101,115])=false:=by rw[eqk];exact AC hx0
 have HLX:Hid (L (S x0)=x0):=L_S _
 have hxs:(S x0).size≤4096:=by
  exact C1n
 have HWD:=AA (fun W A c (ht:TabI W)=>A1s x0 [] A c W Rd.nil_ (by rw[←A0b];exact hxs) (fun x hx=>by cases hx) ht)
 have HAK:Hid (askK x0 ([]:List (List UInt8)).length=0):=B0G x0
 rw[HAK.out,if_pos rfl,AC EH] at HWD
 have HEN:Hid (∀P,S (dkT P [x0])=S (errB 12)∧dkP P [x0]=P):=fun P=>by
  have h1:¬(x0=A0O∧([]:List (List UInt8))=[]):=fun h=>hx0 h.1
  by_cases hk:(dkN x0).1=0
  ·obtain⟨e1,e2⟩:=A9l (P:=P) h1 hk
   have:askE x0 []=12:=A7p (B0G x0)
   rw[e1,this,if_neg EF]
   exact⟨rfl,e2⟩
  ·obtain⟨e1,e2⟩:=A9m (P:=P) h1 hk (by
    have:=(A9P hk).2.2.2
    unfold dkS
    rw[AC (by simp;omega),Bool.false_and])
   rw[e1]
   exact⟨rfl,e2⟩
 have HFF2:Hid ((fK x0=none∧fM x0=none)∨∃k m:Nat,fK x0=some (k:Int)∧fM x0=some (m:Int)∧0<k∧0<m):=by
  by_cases hk:(dkN x0).1=0
  ·exact .inl ⟨B3V hk,B3W hk⟩
  ·obtain⟨e1,e2,e3,e4⟩:=A9P hk
   exact .inr ⟨_,_,e1,e2,e3,by omega⟩
 have HFF:=AA (fun W=>A1h s W hf.s)
 have HWE:=AA (fun x (h:x∈wds (L s))=>A0p h)
 have HWL:=AA (A1M s)
 have hss:=hf.s
 have HT:=AA hf.t
 have HO:=AA hf.o
 have HNM:=AA hf.n
 have HKW:=AA hf.k
 have HMX:=AA hf.m
 have HG0:=AA hf.g
 obtain⟨N,hN⟩:∃N,rs.length=N:=⟨_,rfl⟩
 have HRN:=AA (RaAt.new_ hf.r N)
 have HNN:=AA hN
 rw[hN]
 clear hf hN
 rw[hq] at HFF HWE HWL
 clear hq
 have hlen:([x0]:List (List UInt8)).length=1:=rfl
 rw[hlen] at HFF
 clear hlen hss
 rcases HFF2.out with⟨hk,hm⟩|⟨k,m,hk,hm,hk0,hm0⟩
 ·have HFK:=AA hk
  have HFM:=AA hm
  clear hk hm HFF2
  exact C0v
 ·have HFK:=AA hk
  have HFM:=AA hm
  have gk:((k:Int)==0)=false:=by rw[AH];omega
  have gk':(k==0)=false:=by rw[AH];omega
  have gm:((m:Int)==0)=false:=by rw[AH];omega
  have gm':((m:Int) !=0)=true:=by rw[bne,gm];rfl
  have gm2:(m==0)=false:=by rw[AH];omega
  have gm3:(m !=0)=true:=by rw[bne,gm2];rfl
  clear hk hm HFF2 hk0 hm0
  exact C0v
theorem B9o{x:List UInt8}{n:Nat}(h:askK x n≠0):(dkN x).1=0:=by
 rcases A4Q h with⟨_,e|e|e⟩|⟨_,e|e⟩<;>subst e<;>decide
theorem A2s{w:World}{B g m:Nat}{x0:List UInt8}{r:List (List UInt8)}(h:Rd w B 1 (some ⟨g,0,none⟩) m (strCells (x0::r))):Rd w B 1 (some ⟨g,1,none⟩) r.length (strCells r):=by
 refine⟨by simp[strCells],fun hn=> ?_⟩
 have hl:=h.1
 simp[strCells] at hl
 obtain⟨ad,hA,hb,hc⟩:=h.2 EE
 cases hA
 refine⟨⟨g,1,none⟩,rfl,hb,fun j u hu=> ?_⟩
 have h1:=hc (j+1) u (by simpa[strCells] using hu)
 have e1:(⟨g,0,none⟩:Addr).add (j+1)=⟨g,j+1,none⟩:=by unfold Addr.add;split<;>simp_all
 have e2:(⟨g,1,none⟩:Addr).add j=⟨g,j+1,none⟩:=by unfold Addr.add;split<;>simp_all<;>omega
 rw[e1] at h1
 rw[e2];exact h1
theorem B2F{w W:World}{K:Nat→Prop}{A:Option Addr}{N c:Nat}{rs rs':List Rc}(h:RaAt w W K A N c rs')(hn:rs'.length=N){l:List (List UInt8)}{T:ByteArray}(h1:S (dkT (rs.map Rc.s) l)=T)(h2:rs'.map Rc.s=dkP (rs.map Rc.s) l):
 A2h w K rs l (.returned (.tuple #[.agg #[.slice A N c],.string T])) (W.setCell ⟨w.heap.size+1,0,none⟩ (.slice A N c)):=by
 obtain⟨h3,h4⟩:=h.lay (.slice A N c)
 exact⟨A,c,rs',by rw[h1,hn],h2,h3,h4⟩
theorem B7j(s:ByteArray)(A:Option Addr)(c:Nat)(rs:List Rc)(K:Nat→Prop)(w:World)(hf:RaOk w K A c rs s)(x0:List UInt8)(r:List (List UInt8))(hr0:r≠ [])(hk:askK x0 r.length≠0)(hq:wds (L s)=x0::r):
 Calls Tryz.prog 49 #[.agg #[.slice A rs.length c],.string s,.func (.func 10) #[] #[]] w (A2h w K rs (x0::r)):=by
 have hne:x0≠A0O:=fun h=>by
  subst h
  rcases A4Q hk with⟨_,e|e|e⟩|⟨_,e|e⟩<;>revert e<;>decide
 have q6:((S x0).toList==[110,97,109,101,115])=false:=by rw[eqk];exact AC hne
 have HLX:Hid (L (S x0)=x0):=L_S _
 have hxs:(S x0).size≤4096:=by
  exact C1n
 have HWD:=AA (fun W A c (hr:Rd W W.heap.size 1 A r.length (strCells r)) (ht:TabI W)=>A1s x0 r A c W hr (by rw[←A0b];exact hxs) (fun x hx=>(A0p (s:=s) (x:=x) (by rw[hq];simp[hx])).1) ht)
 rw[if_neg hk,AG hk] at HWD
 have HEN:Hid (∀P,S (dkT P (x0::r))=S (if askE x0 r=0 then askT x0 r else errB (askE x0 r))∧dkP P (x0::r)=P):=fun P=>by
  obtain⟨e1,e2⟩:=A9l (P:=P) (x0:=x0) (r:=r) (fun h=>hne h.1) (B9o hk)
  exact⟨by rw[e1],e2⟩
 obtain⟨m,hm9⟩:∃m,r.length=m:=⟨_,rfl⟩
 have hm0:0<m:=by rw[←hm9];exact BO.2 hr0
 have HM:=AA hm9
 have g0:((m:Int)==0)=false:=by rw[AH];omega
 have g0':(m==0)=false:=by rw[AH];omega
 have g9:((m:Int)+1==0)=false:=by rw[AH];omega
 have hml:m≤4097:=by
  exact C1M
 have HFF:=AA (fun W=>A1h s W hf.s)
 have HWE:=AA (fun x (h:x∈wds (L s))=>A0p h)
 have HWL:=AA (A1M s)
 have hss:=hf.s
 have HT:=AA hf.t
 have HO:=AA hf.o
 have HNM:=AA hf.n
 have HKW:=AA hf.k
 have HMX:=AA hf.m
 have HG0:=AA hf.g
 obtain⟨N,hN⟩:∃N,rs.length=N:=⟨_,rfl⟩
 have HRN:=AA (RaAt.new_ hf.r N)
 have HNN:=AA hN
 rw[hN]
 clear hf hN
 rw[hq] at HFF HWE HWL
 clear hq
 rw[hm9] at HWD
 clear hss hk hne hm9
 obtain⟨X0,hX9⟩:∃X0,S x0=X0:=⟨_,rfl⟩
 rw[hX9] at q6 HLX hxs HWD
 have HX09:=AA hX9
 clear hX9
 have hmm:=@run_makeMap Tryz.prog
 generalize S (if askE x0 r=0 then askT x0 r else errB (askE x0 r))=T at*
 go_enter Tryz.func49,Tryz.ntmps49
 go_wp2_with fail
 generalize(w.alloc (.cells #[.slice A N c] 29)).alloc (.cells #[.slice none 0 0] 29)=w1 at*
 refine(HFF.out _).mono ?_
 rintro e w2 ⟨g2,rfl,ho2,hb2⟩
 have HRA:=AA (HRN.out.below hb2)
 have HRQ:=AA (Rd.of_own ho2)
 clear HFF ho2 hb2 HRN
 have HRT:=AA (A2s HRQ.out)
 have c0:w2.cell? ⟨g2,0,none⟩=some (.string X0):=by
  exact B9D
 clear HRQ
 rw[AM]
 rw[HM.out] at HRT⊢
 go_wp2_with fail
 go_quiet (fail)
 go_wp2_with fail
 have HRA2:=AA (HRA.out.below (A0d (AI _ _) nq))
 have HRT2:=AA ((HRT.out.drewN nq).more (A0d (B:=w2.heap.size) (AI _ w2) nq).size)
 refine(HWD.out _ _ _ HRT2.out (A0c HT.out HRA2.out.b)).mono ?_
 rintro e wq ⟨rfl,hbq⟩
 have HRA:=AA (HRA2.out.below hbq)
 have HRT:=AA ((HRT2.out.below hbq).more hbq.size)
 clear HRA2 HRT2 c0 hbq
 have z3:=HRA.out.h.cell0
 have z6:=HRA.out.o.cell0;have z6f:=HRA.out.o.frozen 0
 go_wp2_with fail
 have zz:=(HRA.out.o.set_ 0 (.slice A N c)).cell0
 clear z3 z6 z6f
 (apply bodyPost_ret;(simp[results,Tryz.results49,go_sem,zz];rfl);rfl)
 exact A3F HRA.out HNN.out (HEN.out _).1 (HEN.out _).2
theorem B5a(s:ByteArray)(A:Option Addr)(c:Nat)(rs:List Rc)(K:Nat→Prop)(w:World)(hf:RaOk w K A c rs s)(x0:List UInt8)(r:List (List UInt8))(hr0:r≠ [])(hk0:(dkN x0).1=0)(hka:askK x0 r.length=0)(hq:wds (L s)=x0::r):
 Calls Tryz.prog 49 #[.agg #[.slice A rs.length c],.string s,.func (.func 10) #[] #[]] w (A2h w K rs (x0::r)):=by
 obtain⟨qb,hqb⟩:∃qb,decide (x0=A0O)=qb:=⟨_,rfl⟩
 have q6:((S x0).toList==[110,97,109,101,115])=qb:=by rw[eqk];exact hqb
 have HLX:Hid (L (S x0)=x0):=L_S _
 have hxs:(S x0).size≤4096:=by
  exact C1n
 have HWD:=AA (fun W A c (hr:Rd W W.heap.size 1 A r.length (strCells r)) (ht:TabI W)=>A1s x0 r A c W hr (by rw[←A0b];exact hxs) (fun x hx=>(A0p (s:=s) (x:=x) (by rw[hq];simp[hx])).1) ht)
 rw[if_pos hka,AC (by simpa using hka)] at HWD
 have HEN:Hid (∀P,S (dkT P (x0::r))=S (errB 12)∧dkP P (x0::r)=P):=fun P=>by
  obtain⟨e1,e2⟩:=A9l (P:=P) (x0:=x0) (r:=r) (fun h=>hr0 h.2) hk0
  rw[e1,A7p hka,if_neg EF]
  exact⟨rfl,e2⟩
 have HFK:=AA (B3V hk0)
 have HFM:=AA (B3W hk0)
 obtain⟨m,hm9⟩:∃m,r.length=m:=⟨_,rfl⟩
 have hm0:0<m:=by rw[←hm9];exact BO.2 hr0
 have HM:=AA hm9
 have g0:((m:Int)==0)=false:=by rw[AH];omega
 have g0':(m==0)=false:=by rw[AH];omega
 have g9:((m:Int)+1==0)=false:=by rw[AH];omega
 have hml:m≤4097:=by
  exact C1M
 have HFF:=AA (fun W=>A1h s W hf.s)
 have HWE:=AA (fun x (h:x∈wds (L s))=>A0p h)
 have HWL:=AA (A1M s)
 have hss:=hf.s
 have HT:=AA hf.t
 have HO:=AA hf.o
 have HNM:=AA hf.n
 have HKW:=AA hf.k
 have HMX:=AA hf.m
 have HG0:=AA hf.g
 obtain⟨N,hN⟩:∃N,rs.length=N:=⟨_,rfl⟩
 have HRN:=AA (RaAt.new_ hf.r N)
 have HNN:=AA hN
 rw[hN]
 clear hf hN
 rw[hq] at HFF HWE HWL
 clear hq
 rw[hm9] at HWD
 exact C0t
theorem B8w(s:ByteArray)(A:Option Addr)(c:Nat)(rs:List Rc)(K:Nat→Prop)(w:World)(hf:RaOk w K A c rs s)(x0:List UInt8)(r:List (List UInt8))(hr0:r≠ [])(hk0:(dkN x0).1≠0)(hc0:(dkN x0).2≠r.length+1)(hq:wds (L s)=x0::r):
 Calls Tryz.prog 49 #[.agg #[.slice A rs.length c],.string s,.func (.func 10) #[] #[]] w (A2h w K rs (x0::r)):=by
 obtain⟨qb,hqb⟩:∃qb,decide (x0=A0O)=qb:=⟨_,rfl⟩
 have q6:((S x0).toList==[110,97,109,101,115])=qb:=by rw[eqk];exact hqb
 have HLX:Hid (L (S x0)=x0):=L_S _
 have hxs:(S x0).size≤4096:=by
  exact C1n
 have HWD:=AA (fun W A c (hr:Rd W W.heap.size 1 A r.length (strCells r)) (ht:TabI W)=>A1s x0 r A c W hr (by rw[←A0b];exact hxs) (fun x hx=>(A0p (s:=s) (x:=x) (by rw[hq];simp[hx])).1) ht)
 have hka:=A1S hk0 r.length
 rw[if_pos hka,AC (by simpa using hka)] at HWD
 have HEN:Hid (∀P,S (dkT P (x0::r))=S (errB 12)∧dkP P (x0::r)=P):=fun P=>by
  obtain⟨e1,e2⟩:=A9m (P:=P) (x0:=x0) (r:=r) (fun h=>hr0 h.2) hk0 (by
   unfold dkS
   rw[AC (fun h=>hc0 h.symm),Bool.false_and])
  rw[e1]
  exact⟨rfl,e2⟩
 obtain⟨e1,e2,e3,e4⟩:=A9P hk0
 obtain⟨k,hk9⟩:∃k,(dkN x0).1=k:=⟨_,rfl⟩
 obtain⟨mm,hmm9⟩:∃mm,(dkN x0).2-1=mm:=⟨_,rfl⟩
 rw[hk9] at e1 e3
 rw[hmm9] at e2
 have HFK:=AA e1
 have HFM:=AA e2
 have gk:((k:Int)==0)=false:=by rw[AH];omega
 have gk':(k==0)=false:=by rw[AH];omega
 obtain⟨m,hm9⟩:∃m,r.length=m:=⟨_,rfl⟩
 have hm0:0<m:=by rw[←hm9];exact BO.2 hr0
 have HM:=AA hm9
 have g0:((m:Int)==0)=false:=by rw[AH];omega
 have g0':(m==0)=false:=by rw[AH];omega
 have g9:((m:Int)+1==0)=false:=by rw[AH];omega
 have hml:m≤4097:=by
  exact C1M
 have HFF:=AA (fun W=>A1h s W hf.s)
 have HWE:=AA (fun x (h:x∈wds (L s))=>A0p h)
 have HWL:=AA (A1M s)
 have hss:=hf.s
 have HT:=AA hf.t
 have HO:=AA hf.o
 have HNM:=AA hf.n
 have HKW:=AA hf.k
 have HMX:=AA hf.m
 have HG0:=AA hf.g
 obtain⟨N,hN⟩:∃N,rs.length=N:=⟨_,rfl⟩
 have HRN:=AA (RaAt.new_ hf.r N)
 have HNN:=AA hN
 rw[hN]
 clear hf hN
 rw[hq] at HFF HWE HWL
 clear hq
 rw[hm9] at HWD
 have hne9:mm≠m:=EE
 have gm:((mm:Int)==(m:Int))=false:=by rw[AH];omega
 have gm':((mm:Int) !=(m:Int))=true:=by rw[bne,gm];rfl
 have gm2:(mm==m)=false:=by rw[AH];exact hne9
 have gm3:(mm !=m)=true:=by rw[bne,gm2];rfl
 clear hk9 hmm9 e1 e2 e3 e4 hne9 hc0 hk0
 exact C0t
theorem A1N{w:World}{B g m:Nat}{r:List (List UInt8)}(h:Rd w B 1 (some ⟨g,1,none⟩) m (strCells r)):∀j (_:j<r.length),w.cell? ⟨g,j+1,none⟩=some (.string (S (r.getD j []))):=by
 intro j hj
 have hl:=h.1
 simp[strCells] at hl
 obtain⟨ad,hA,_,hc⟩:=h.2 EE
 cases hA
 have h1:=hc j _ (by rw[strCells,BT,AL hj];rfl)
 have e2:(⟨g,1,none⟩:Addr).add j=⟨g,j+1,none⟩:=by unfold Addr.add;split<;>simp_all<;>omega
 rw[e2] at h1
 rw[h1,AK,AL hj];rfl
theorem A4r{w W:World}{K:Nat→Prop}(hK:∀k,K k→k<w.heap.size)(h1:w.heap.size<W.heap.size)(h2:w.heap.size+1<W.heap.size):∀k,KK w K k→k<W.heap.size:=by
 rintro k (h|rfl|rfl)
 ·have:=hK k h;omega
 ·exact h1
 ·exact h2
theorem RaAt.turn{w W W':World}{K:Nat→Prop}{A A':Option Addr}{N c N' c':Nat}{rs rs':List Rc}(h:RaAt w W K A N c rs)(hb:Below W.heap.size W W')(hr:RhAt W' (KK w K) A' c' rs'):RaAt w (W'.setCell ⟨w.heap.size,0,none⟩ (.slice A' N' c')) K A' N' c' rs':=by
 have hg:¬w.heap.size+1=w.heap.size:=EE
 refine⟨(h.b.trans (hb.mono h.b.size)).setCell (AD _) _,hr.chg ((Chg.setH W' _ _).monoH (fun k _ hk=> .inr (.inl hk))),(h.h.below' hb).set_ 0 _,(h.o.below' hb).far (fun e=>hg e) _⟩
end Go.Proofs.YtplgghjdidmcfaaGreatDoor
