/- Written anew, smaller, by a program of our own out of our texts. No condition of our own. -/
import Derived.Test.YtplgghjdidmcfaaGreatDoorQ30
import Derived.Test.YtplgghjdidmcfaaGreatDoorQ29
import Derived.Test.YtplgghjdidmcfaaGreatDoorQ25
set_option maxRecDepth 100000
set_option maxHeartbeats 16000000
set_option linter.all false
namespace Go.Proofs.YtplgghjdidmcfaaGreatDoor
open Go.RowKit
theorem C0n{P:Prop}(h:P:=by
 refine ED HF1 ?_ ⟨Blk.cell1 P0.out,Blk.cell2 P0.out⟩
 repeat(first|((first|refine Dx ?_|refine Dy ?_);intro K hK;go_big_quiet_op;go_big_quiet_on)|((first|refine Dz ?_|refine EA ?_);simp only[Act.put,AB,AE,AF]))
 refine A0s ?_
 have f0:=P2.out.frozen 0;have f1:=P2.out.frozen 1
 have e0:=Blk.cell0 P2.out;have e1:=Blk.cell1 P2.out
 go_wp2_with fail
 have n2:w.heap.size≠b2:=EE
 have n3:w.heap.size+1≠b2:=EE
 have n4:w.heap.size≤b2:=EE
 have hb5:Below w.heap.size w ((w4.setCell ⟨b2,0,none⟩ (.string D')).setCell ⟨b2,1,none⟩ (.int .i64 (sf:Int))):=Ds
 replace P0:=AA (Blk.far (Blk.far P0.out (p:=⟨b2,0,none⟩) n2 (.string D')) (p:=⟨b2,1,none⟩) n2 (.int .i64 (sf:Int)))
 replace P1:=AA (Blk.far (Blk.far P1.out (p:=⟨b2,0,none⟩) n3 (.string D')) (p:=⟨b2,1,none⟩) n3 (.int .i64 (sf:Int)))
 replace P2:Hid (Blk ((w4.setCell ⟨b2,0,none⟩ (.string D')).setCell ⟨b2,1,none⟩ (.int .i64 (sf:Int))) b2 78 #[.string D',.int .i64 (sf:Int)]):=Blk.set_ (Blk.set_ P2.out 0 _) 1 _
 replace PB:=hb5
 clear f0 f1 e0 e1 hb5
 generalize((w4.setCell ⟨b2,0,none⟩ (.string D')).setCell ⟨b2,1,none⟩ (.int .i64 (sf:Int)))=w9 at*
 refine ED HF1 ?_ ⟨Blk.cell1 P0.out,Blk.cell2 P0.out⟩
 repeat(first|((first|refine Dx ?_|refine Dy ?_);intro K hK;go_big_quiet_op;go_big_quiet_on)|((first|refine Dz ?_|refine EA ?_);simp only[Act.put,AB,AE,AF]))
 refine A2r ?_
 refine A0Y ?_
 go_wp2_with fail
 refine A1n ?_
 refine A1z ?_
 clear HF1
 have q0:=Blk.cell0 P0.out
 have e0:=Blk.cell0 P2.out;have e1:=Blk.cell1 P2.out
 go_wp2_with fail
 obtain⟨F2,HF2,hcell20,hcell21,hcell22⟩:=cells3 ⟨w.heap.size,0,none⟩ (.string tx) ⟨b2,0,none⟩ (.string D') ⟨b2,1,none⟩ (.int .i64 (sf:Int))
 refine EB [(0,true),(1,true),(2,true),(4,true),(3,false),(5,true),(6,false),(7,true)] HF2 ?_
 intro hne2
 simp only[A0i,AT,AP,AR]
 repeat(first|((first|refine Dt ?_|refine Du ?_);intro K hK;go_big_quiet_op;go_big_quiet_on)|((first|refine Dv ?_|refine Dw ?_);simp only[Act.put,AB,AE,AF]))
 refine A0a ?_
 go_wp2_with fail
 refine(HDN.out _ (by first|exact PB|exact PB.drew)).mono ?_
 rintro e w10 ⟨rfl,hb10⟩
 replace P0:=AA (Blk.below' (w:=w9.drew) P0.out hb10)
 replace P1:=AA (Blk.below' (w:=w9.drew) P1.out hb10)
 replace P2:=AA (Blk.below' (w:=w9.drew) P2.out hb10)
 replace PB:=A0h PB.drew hb10
 clear hb10 q0 e0 e1
 have q0:=Blk.cell0 P0.out
 have e0:=Blk.cell0 P2.out;have e1:=Blk.cell1 P2.out
 have f0:=P1.out.frozen 0;have f1:=P1.out.frozen 1;have f2:=P1.out.frozen 2
 have d0:=Blk.cell0 P1.out;have d1:=Blk.cell1 P1.out;have d2:=Blk.cell2 P1.out
 have m0:w.heap.size≠w.heap.size+1:=EE
 have m1:b2≠w.heap.size+1:=EE
 go_wp2_with fail
 refine ED HF2 ?_ ⟨q0,e0,e1⟩
 repeat(first|((first|refine Dt ?_|refine Du ?_);intro K hK;go_big_quiet_op;go_big_quiet_on)|((first|refine Dv ?_|refine Dw ?_);simp only[Act.put,AB,AE,AF]))
 refine A0a ?_
 go_wp2_with fail
 refine ED HF2 ?_ ⟨Blk.cell0 (Blk.far (Blk.far (Blk.far P0.out (p:=⟨w.heap.size+1,0,none⟩) m0 _) (p:=⟨w.heap.size+1,1,none⟩) m0 _) (p:=⟨w.heap.size+1,2,none⟩) m0 _),Blk.cell0 (Blk.far (Blk.far (Blk.far P2.out (p:=⟨w.heap.size+1,0,none⟩) m1 _) (p:=⟨w.heap.size+1,1,none⟩) m1 _) (p:=⟨w.heap.size+1,2,none⟩) m1 _),Blk.cell1 (Blk.far (Blk.far (Blk.far P2.out (p:=⟨w.heap.size+1,0,none⟩) m1 _) (p:=⟨w.heap.size+1,1,none⟩) m1 _) (p:=⟨w.heap.size+1,2,none⟩) m1 _)⟩
 repeat(first|((first|refine Dt ?_|refine Du ?_);intro K hK;go_big_quiet_op;go_big_quiet_on)|((first|refine Dv ?_|refine Dw ?_);simp only[Act.put,AB,AE,AF]))
 refine A0g ?_
 exact C2H
 ):P:=h
theorem B9N{P:Prop}(h:P:=by
 have HCL:=AA (A5z rAb nb rcb w.heap.size rb _ (HRBK.out _ HB6.out) HB6.out.size EE)
 have HP:=HP5
 clear hb5 HLE HP5 HPQ
 have e0:=HP.out.p.cell 0;have e1:=HP.out.p.cell 1;have e2:=HP.out.p.cell 2;have e3:=HP.out.p.cell 3;have e4:=HP.out.p.cell 4;have e5:=HP.out.p.cell 5
 have ef0:=HP.out.p.frozen 0;have ef1:=HP.out.p.frozen 1;have ef2:=HP.out.p.frozen 2;have ef3:=HP.out.p.frozen 3;have ef4:=HP.out.p.frozen 4;have ef5:=HP.out.p.frozen 5
 have d1:w5.cell? ⟨w.heap.size+1,1,none⟩=some (.int .i64 xn):=HP.out.d.cell 1
 have d3:w5.cell? ⟨w.heap.size+1,3,none⟩=some (.string xt):=HP.out.d.cell 3
 have d4:w5.cell? ⟨w.heap.size+1,4,none⟩=some (.slice xA xm xc):=HP.out.d.cell 4
 have z0:w5.cell? ⟨w.heap.size+1+1,0,none⟩=some (.string ⟨#[]⟩):=HP.out.z.cell 0
 have z1:w5.cell? ⟨w.heap.size+1+1,1,none⟩=some (.string ⟨#[]⟩):=HP.out.z.cell 1
 have z2:w5.cell? ⟨w.heap.size+1+1,2,none⟩=some (.string ⟨#[]⟩):=HP.out.z.cell 2
 have z3:w5.cell? ⟨w.heap.size+1+1,3,none⟩=some (.int .i64 0):=HP.out.z.cell 3
 have z4:w5.cell? ⟨w.heap.size+1+1,4,none⟩=some (.slice none 0 0):=HP.out.z.cell 4
 have z5:w5.cell? ⟨w.heap.size+1+1,5,none⟩=some (.slice none 0 0):=HP.out.z.cell 5
 have zf0:=HP.out.z.frozen 0;have zf1:=HP.out.z.frozen 1;have zf2:=HP.out.z.frozen 2;have zf3:=HP.out.z.frozen 3;have zf4:=HP.out.z.frozen 4;have zf5:=HP.out.z.frozen 5
 go_wp2_with fail
 clear e0 e1 e2 e3 e4 e5 ef0 ef1 ef2 ef3 ef4 ef5 d1 d3 d4 z0 z1 z2 z3 z4 z5 zf0 zf1 zf2 zf3 zf4 zf5
 generalize(((w5.setCell ⟨w.heap.size,1,none⟩ (.string tx')).setCell ⟨w.heap.size,2,none⟩ (.string d')).setCell ⟨w.heap.size,3,none⟩ (.int .i64 (rsf:Int)))=w6 at*
 refine HCL.out.mono ?_
 rintro e w7 ⟨v7,rfl,hown7,hb7⟩
 have hs67:=hb7.size
 have hs6:=HB6.out.size
 have hg26:w.heap.size+1+1<w6.heap.size:=HP6.out.z.lt
 have hnew:=BL w7 (.string rtx) 9
 have hownA:=hown7.alloc (.cells #[.string rtx] 9)
 have HG6:Hid (∀k,K k→k<w6.heap.size):=fun k hk=>AO (HKK.out k hk) hs6
 have HB67:Hid (Below w6.heap.size w6 (w7.alloc (.cells #[.string rtx] 9))):=hb7.alloc hs67 _
 have HP6K:=HP6
 have HP7:=AA (HP6.out.below hb7)
 clear HP6 HCL hb7 HP HB5
 have hsz8:w6.heap.size≤(w7.alloc (.cells #[.string rtx] 9)).heap.size:=HB67.out.size
 obtain⟨N,hN⟩:∃N,nb+1=N:=⟨_,rfl⟩
 have HN:=AA hN
 by_cases h31:N=31
 ·have hmax:max 0 ((N:Int)-30)=1:=by rw[Int.max_eq_right EE];omega
  have H30:Hid (nb+1-30=1):=by unfold Hid;omega
  clear hN h31
  go_wp2_with (at_builtin;go_must (refine A0r rfl _ _ _ rfl w6.heap.size 9 i0 _ 1 16 Tryz.underlying25 hi0 hz0 hz1 hz2 rfl EE _ nb (strCells rb) rfl hownA ⟨w7.heap.size,0,none⟩ 1 1 [.string rtx] rfl rfl hnew (by simp[Value.oneCell']) EE EE (by simp at hsz8⊢;omega) ?_);intro v8 w8 hown8 hg8 hb8;have hO8:=OwnO.of_own hown8;rw[HN.out] at hO8;obtain⟨A8,c8,rfl,hn8,hm8,hrd8⟩:=OwnO.form hO8;obtain⟨a8,eA8,_,_⟩:=hrd8.2 (by have:=HN.out;omega);subst eA8;obtain⟨A9,hcut0,ho9,hl9⟩:=B2w (k:=1) hO8 HN.out HNB.out (by have:=HN.out;omega);have hcut:∀W,(Instr.sliceAt 25 (.slice (some a8) N c8) (some (.int .i64 (1:Int))) none none).run Tryz.prog W= .ok (.slice A9 (N-1) (c8-1)) W:=hcut0;clear hcut0;(try simp only[Bh] at hcut);have HO9:=AA ho9;have HL9:=AA hl9;clear ho9 hl9;have HB8:=AA (HB6.out.trans ((HB67.out.trans hb8).mono HB6.out.size));have HP:=AA (HP6K.out.below (HB67.out.trans hb8));have HC8:Hid (N≤c8∧c8≤maxLen):=⟨hn8,hm8⟩;clear hown8 hg8 hb8 hO8 hownA hnew hrd8 hm8;have e0:=HP.out.p.cell 0;have e1:=HP.out.p.cell 1;have e2:=HP.out.p.cell 2;have e3:=HP.out.p.cell 3;have e4:=HP.out.p.cell 4;have e5:=HP.out.p.cell 5;have ef4:=HP.out.p.frozen 4;have ef5:=HP.out.p.frozen 5;have z0:w8.cell? ⟨w.heap.size+1+1,0,none⟩=some (.string ⟨#[]⟩):=HP.out.z.cell 0;have z1:w8.cell? ⟨w.heap.size+1+1,1,none⟩=some (.string ⟨#[]⟩):=HP.out.z.cell 1;have z2:w8.cell? ⟨w.heap.size+1+1,2,none⟩=some (.string ⟨#[]⟩):=HP.out.z.cell 2;have z3:w8.cell? ⟨w.heap.size+1+1,3,none⟩=some (.int .i64 0):=HP.out.z.cell 3;have z4:w8.cell? ⟨w.heap.size+1+1,4,none⟩=some (.slice none 0 0):=HP.out.z.cell 4;have z5:w8.cell? ⟨w.heap.size+1+1,5,none⟩=some (.slice none 0 0):=HP.out.z.cell 5;have zf0:=HP.out.z.frozen 0;have zf1:=HP.out.z.frozen 1;have zf2:=HP.out.z.frozen 2;have zf3:=HP.out.z.frozen 3;have zf4:=HP.out.z.frozen 4;have zf5:=HP.out.z.frozen 5)
  (apply bodyPost_ret;(simp[results,Tryz.results37,go_sem,z0,z1,z2,z3,z4,z5];rfl);rfl)
  have l1:=HL9.out
  refine⟨⟨⟨rn,tx',d',rsf,(rb++ [L rtx]).drop 1,[]⟩,A9,c8-1,none,0⟩, ?_,HFS.out (HPP.out.trans (by rw[H30.out])), ?_⟩
  ·rw[HFE.out,HPE5.out]
   simp only[l1,Bh,BK]
  ·exact C0l
 ·have hmax:max 0 ((N:Int)-30)=0:=by rw[Int.max_eq_left EE]
  have H30:Hid (nb+1-30=0):=by unfold Hid;omega
  clear hN h31
  go_wp2_with (at_builtin;go_must (refine A0r rfl _ _ _ rfl w6.heap.size 9 i0 _ 1 16 Tryz.underlying25 hi0 hz0 hz1 hz2 rfl EE _ nb (strCells rb) rfl hownA ⟨w7.heap.size,0,none⟩ 1 1 [.string rtx] rfl rfl hnew (by simp[Value.oneCell']) EE EE (by simp at hsz8⊢;omega) ?_);intro v8 w8 hown8 hg8 hb8;have hO8:=OwnO.of_own hown8;rw[HN.out] at hO8;obtain⟨A8,c8,rfl,hn8,hm8,hrd8⟩:=OwnO.form hO8;obtain⟨a8,eA8,_,_⟩:=hrd8.2 (by have:=HN.out;omega);subst eA8;obtain⟨A9,hcut0,ho9,hl9⟩:=B2w (k:=0) hO8 HN.out HNB.out (by have:=HN.out;omega);have hcut:∀W,(Instr.sliceAt 25 (.slice (some a8) N c8) (some (.int .i64 (0:Int))) none none).run Tryz.prog W= .ok (.slice A9 (N-0) (c8-0)) W:=hcut0;clear hcut0;(try simp only[Bh] at hcut);have HO9:=AA ho9;have HL9:=AA hl9;clear ho9 hl9;have HB8:=AA (HB6.out.trans ((HB67.out.trans hb8).mono HB6.out.size));have HP:=AA (HP6K.out.below (HB67.out.trans hb8));have HC8:Hid (N≤c8∧c8≤maxLen):=⟨hn8,hm8⟩;clear hown8 hg8 hb8 hO8 hownA hnew hrd8 hm8;have e0:=HP.out.p.cell 0;have e1:=HP.out.p.cell 1;have e2:=HP.out.p.cell 2;have e3:=HP.out.p.cell 3;have e4:=HP.out.p.cell 4;have e5:=HP.out.p.cell 5;have ef4:=HP.out.p.frozen 4;have ef5:=HP.out.p.frozen 5;have z0:w8.cell? ⟨w.heap.size+1+1,0,none⟩=some (.string ⟨#[]⟩):=HP.out.z.cell 0;have z1:w8.cell? ⟨w.heap.size+1+1,1,none⟩=some (.string ⟨#[]⟩):=HP.out.z.cell 1;have z2:w8.cell? ⟨w.heap.size+1+1,2,none⟩=some (.string ⟨#[]⟩):=HP.out.z.cell 2;have z3:w8.cell? ⟨w.heap.size+1+1,3,none⟩=some (.int .i64 0):=HP.out.z.cell 3;have z4:w8.cell? ⟨w.heap.size+1+1,4,none⟩=some (.slice none 0 0):=HP.out.z.cell 4;have z5:w8.cell? ⟨w.heap.size+1+1,5,none⟩=some (.slice none 0 0):=HP.out.z.cell 5;have zf0:=HP.out.z.frozen 0;have zf1:=HP.out.z.frozen 1;have zf2:=HP.out.z.frozen 2;have zf3:=HP.out.z.frozen 3;have zf4:=HP.out.z.frozen 4;have zf5:=HP.out.z.frozen 5)
  (apply bodyPost_ret;(simp[results,Tryz.results37,go_sem,z0,z1,z2,z3,z4,z5];rfl);rfl)
  have l1:=HL9.out
  refine⟨⟨⟨rn,tx',d',rsf,(rb++ [L rtx]).drop 0,[]⟩,A9,c8-0,none,0⟩, ?_,HFS.out (HPP.out.trans (by rw[H30.out])), ?_⟩
  ·rw[HFE.out,HPE5.out]
   simp only[l1,Bh,BK]
  ·exact C0l
 ):P:=h
theorem C0u{P:Prop}(h:P:=by
 refine ED HF1 ?_ ⟨Blk.cell1 P0.out,Blk.cell2 P0.out⟩
 repeat(first|((first|refine Dx ?_|refine Dy ?_);intro K hK;go_big_quiet_op;go_big_quiet_on)|((first|refine Dz ?_|refine EA ?_);simp only[Act.put,AB,AE,AF]))
 refine A0s ?_
 have f0:=P2.out.frozen 0;have f1:=P2.out.frozen 1
 have e0:=Blk.cell0 P2.out;have e1:=Blk.cell1 P2.out
 go_wp2_with fail
 have n2:w.heap.size≠b2:=EE
 have n3:w.heap.size+1≠b2:=EE
 have n4:w.heap.size≤b2:=EE
 have hb5:Below w.heap.size w ((w4.setCell ⟨b2,0,none⟩ (.string D')).setCell ⟨b2,1,none⟩ (.int .i64 (sf:Int))):=Ds
 replace P0:=AA (Blk.far (Blk.far P0.out (p:=⟨b2,0,none⟩) n2 (.string D')) (p:=⟨b2,1,none⟩) n2 (.int .i64 (sf:Int)))
 replace P1:=AA (Blk.far (Blk.far P1.out (p:=⟨b2,0,none⟩) n3 (.string D')) (p:=⟨b2,1,none⟩) n3 (.int .i64 (sf:Int)))
 replace P2:Hid (Blk ((w4.setCell ⟨b2,0,none⟩ (.string D')).setCell ⟨b2,1,none⟩ (.int .i64 (sf:Int))) b2 78 #[.string D',.int .i64 (sf:Int)]):=Blk.set_ (Blk.set_ P2.out 0 _) 1 _
 clear f0 f1 e0 e1 PB
 generalize((w4.setCell ⟨b2,0,none⟩ (.string D')).setCell ⟨b2,1,none⟩ (.int .i64 (sf:Int)))=w9 at*
 refine ED HF1 ?_ ⟨Blk.cell1 P0.out,Blk.cell2 P0.out⟩
 repeat(first|((first|refine Dx ?_|refine Dy ?_);intro K hK;go_big_quiet_op;go_big_quiet_on)|((first|refine Dz ?_|refine EA ?_);simp only[Act.put,AB,AE,AF]))
 refine A2r ?_
 refine A0Y ?_
 go_wp2_with fail
 refine A1n ?_
 refine A1z ?_
 clear HF1
 have q0:=Blk.cell0 P0.out;have q1:=Blk.cell1 P0.out;have q2:=Blk.cell2 P0.out
 have f0:=P1.out.frozen 0;have f1:=P1.out.frozen 1;have f2:=P1.out.frozen 2
 have d0:=Blk.cell0 P1.out;have d1:=Blk.cell1 P1.out;have d2:=Blk.cell2 P1.out
 exact C2H
 ):P:=h
theorem C0E{P:Prop}(h:P:=by
 go_enter Tryz.func37,Tryz.ntmps37
 go_wp2_with fail
 rw[←HWA.out]
 refine(HLP.out wA HBA.out).mono ?_
 rintro e w1 ⟨rfl,hb1⟩
 have HB1:=AA (HBA.out.trans (hb1.mono HBA.out.size))
 have HP:=AA (HP3.out.below hb1)
 clear hb1
 have e0:=HP.out.p.cell 0;have e1:=HP.out.p.cell 1;have e2:=HP.out.p.cell 2;have e3:=HP.out.p.cell 3;have e4:=HP.out.p.cell 4;have e5:=HP.out.p.cell 5
 have ef0:=HP.out.p.frozen 0;have ef1:=HP.out.p.frozen 1;have ef2:=HP.out.p.frozen 2;have ef3:=HP.out.p.frozen 3;have ef4:=HP.out.p.frozen 4;have ef5:=HP.out.p.frozen 5
 have d1:w1.cell? ⟨w.heap.size+1,1,none⟩=some (.int .i64 xn):=HP.out.d.cell 1
 have d3:w1.cell? ⟨w.heap.size+1,3,none⟩=some (.string xt):=HP.out.d.cell 3
 have d4:w1.cell? ⟨w.heap.size+1,4,none⟩=some (.slice xA xm xc):=HP.out.d.cell 4
 have z0:w1.cell? ⟨w.heap.size+1+1,0,none⟩=some (.string ⟨#[]⟩):=HP.out.z.cell 0
 have z1:w1.cell? ⟨w.heap.size+1+1,1,none⟩=some (.string ⟨#[]⟩):=HP.out.z.cell 1
 have z2:w1.cell? ⟨w.heap.size+1+1,2,none⟩=some (.string ⟨#[]⟩):=HP.out.z.cell 2
 have z3:w1.cell? ⟨w.heap.size+1+1,3,none⟩=some (.int .i64 0):=HP.out.z.cell 3
 have z4:w1.cell? ⟨w.heap.size+1+1,4,none⟩=some (.slice none 0 0):=HP.out.z.cell 4
 have z5:w1.cell? ⟨w.heap.size+1+1,5,none⟩=some (.slice none 0 0):=HP.out.z.cell 5
 have zf0:=HP.out.z.frozen 0;have zf1:=HP.out.z.frozen 1;have zf2:=HP.out.z.frozen 2;have zf3:=HP.out.z.frozen 3;have zf4:=HP.out.z.frozen 4;have zf5:=HP.out.z.frozen 5
 go_wp2_with fail
 (apply bodyPost_ret;(simp[results,Tryz.results37,go_sem,z0,z1,z2,z3,z4,z5];rfl);rfl)
 have HAT:∀W,Below w.heap.size w W→RcAt W K ⟨⟨rn,tx',d',sf',[],[]⟩,none,0,none,0⟩:=fun W hW=>B6O W K _ rfl rfl
 have hB1:=HB1.out
 refine⟨⟨⟨rn,tx',d',sf',[],[]⟩,none,0,none,0⟩,rfl,rfl,A3r (bel6 (bel45 (bel3 hB1)) (le2 _)) HAT⟩
 ):P:=h
theorem C0H{P:Prop}(h:P:=by
 go_enter Tryz.func37,Tryz.ntmps37
 go_wp2_with fail
 rw[←HWA.out]
 refine(HLP.out wA HBA.out).mono ?_
 rintro e w1 ⟨rfl,hb1⟩
 have HB1:=AA (HBA.out.trans (hb1.mono HBA.out.size))
 have HP:=AA (HP3.out.below hb1)
 clear hb1
 have e0:=HP.out.p.cell 0;have e1:=HP.out.p.cell 1;have e2:=HP.out.p.cell 2;have e3:=HP.out.p.cell 3;have e4:=HP.out.p.cell 4;have e5:=HP.out.p.cell 5
 have ef0:=HP.out.p.frozen 0;have ef1:=HP.out.p.frozen 1;have ef2:=HP.out.p.frozen 2;have ef3:=HP.out.p.frozen 3;have ef4:=HP.out.p.frozen 4;have ef5:=HP.out.p.frozen 5
 have d1:w1.cell? ⟨w.heap.size+1,1,none⟩=some (.int .i64 xn):=HP.out.d.cell 1
 have d3:w1.cell? ⟨w.heap.size+1,3,none⟩=some (.string xt):=HP.out.d.cell 3
 have d4:w1.cell? ⟨w.heap.size+1,4,none⟩=some (.slice xA xm xc):=HP.out.d.cell 4
 have z0:w1.cell? ⟨w.heap.size+1+1,0,none⟩=some (.string ⟨#[]⟩):=HP.out.z.cell 0
 have z1:w1.cell? ⟨w.heap.size+1+1,1,none⟩=some (.string ⟨#[]⟩):=HP.out.z.cell 1
 have z2:w1.cell? ⟨w.heap.size+1+1,2,none⟩=some (.string ⟨#[]⟩):=HP.out.z.cell 2
 have z3:w1.cell? ⟨w.heap.size+1+1,3,none⟩=some (.int .i64 0):=HP.out.z.cell 3
 have z4:w1.cell? ⟨w.heap.size+1+1,4,none⟩=some (.slice none 0 0):=HP.out.z.cell 4
 have z5:w1.cell? ⟨w.heap.size+1+1,5,none⟩=some (.slice none 0 0):=HP.out.z.cell 5
 have zf0:=HP.out.z.frozen 0;have zf1:=HP.out.z.frozen 1;have zf2:=HP.out.z.frozen 2;have zf3:=HP.out.z.frozen 3;have zf4:=HP.out.z.frozen 4;have zf5:=HP.out.z.frozen 5
 go_wp2_with fail
 (apply bodyPost_ret;(simp[results,Tryz.results37,go_sem,z0,z1,z2,z3,z4,z5];rfl);rfl)
 have hB1:=HB1.out
 refine⟨⟨⟨rn,tx',d',sf',rb,ro⟩,rAb,rcb,rAo,rco⟩, ?_,rfl,A3r (bel6 (bel3 hB1) (le2 _)) HAT.out⟩
 rw[←HNB.out,←HNO.out]
 ):P:=h
theorem B9P{P:Prop}(h:P:=by
 clear hz hlen hlt hld
 refine HLE.out.mono ?_
 rintro e w5 ⟨rfl,hb5⟩
 have HB5:=AA (HBE.out.trans (hb5.mono HBE.out.size))
 have HP5:=AA (HPQ.out.below hb5)
 clear hb5
 have HP:=HP5
 have e0:=HP.out.p.cell 0;have e1:=HP.out.p.cell 1;have e2:=HP.out.p.cell 2;have e3:=HP.out.p.cell 3;have e4:=HP.out.p.cell 4;have e5:=HP.out.p.cell 5
 have ef0:=HP.out.p.frozen 0;have ef1:=HP.out.p.frozen 1;have ef2:=HP.out.p.frozen 2;have ef3:=HP.out.p.frozen 3;have ef4:=HP.out.p.frozen 4;have ef5:=HP.out.p.frozen 5
 have d1:w5.cell? ⟨w.heap.size+1,1,none⟩=some (.int .i64 xn):=HP.out.d.cell 1
 have d3:w5.cell? ⟨w.heap.size+1,3,none⟩=some (.string xt):=HP.out.d.cell 3
 have d4:w5.cell? ⟨w.heap.size+1,4,none⟩=some (.slice xA xm xc):=HP.out.d.cell 4
 have z0:w5.cell? ⟨w.heap.size+1+1,0,none⟩=some (.string ⟨#[]⟩):=HP.out.z.cell 0
 have z1:w5.cell? ⟨w.heap.size+1+1,1,none⟩=some (.string ⟨#[]⟩):=HP.out.z.cell 1
 have z2:w5.cell? ⟨w.heap.size+1+1,2,none⟩=some (.string ⟨#[]⟩):=HP.out.z.cell 2
 have z3:w5.cell? ⟨w.heap.size+1+1,3,none⟩=some (.int .i64 0):=HP.out.z.cell 3
 have z4:w5.cell? ⟨w.heap.size+1+1,4,none⟩=some (.slice none 0 0):=HP.out.z.cell 4
 have z5:w5.cell? ⟨w.heap.size+1+1,5,none⟩=some (.slice none 0 0):=HP.out.z.cell 5
 have zf0:=HP.out.z.frozen 0;have zf1:=HP.out.z.frozen 1;have zf2:=HP.out.z.frozen 2;have zf3:=HP.out.z.frozen 3;have zf4:=HP.out.z.frozen 4;have zf5:=HP.out.z.frozen 5
 go_wp2_with fail
 (apply bodyPost_ret;(simp[results,Tryz.results37,go_sem,z0,z1,z2,z3,z4,z5];rfl);rfl)
 refine⟨⟨⟨rn,rtx,rd,rsf,rb,ro⟩,rAb,rcb,rAo,rco⟩, ?_,HFS.out HN2.out.2,A3r (bel6 (bel3 HB5.out) (le2 _)) (fun W hW=>HR.out.below hW)⟩
 rw[HNB.out,HNO.out,HFE.out,HN2.out.1]
 ):P:=h
theorem C1m{P:Prop}(h:P:=by
 go_enter Tryz.func37,Tryz.ntmps37
 go_wp2_with fail
 (apply bodyPost_ret;(simp[results,Tryz.results37,go_sem];rfl);rfl)
 refine⟨⟨⟨rn,rtx,rd,rsf,rb,ro⟩,rAb,rcb,rAo,rco⟩, ?_,rfl,A3r Ds (fun W hW=>HR.out.below hW)⟩
 rw[HNB.out,HNO.out]
 ):P:=h
theorem C1o{P:Prop}(h:P:=by
 have hq:∀i,(⟨w.heap.size,i,none⟩:Addr)≠ad.add m:=fun i e=>hadg (by rw[←A0z ad m,←e])
 rw[AY _ _ _ _ (hq 3),AY _ _ _ _ (hq 2),AY _ _ _ _ (hq 1)]
 exact hcl'
 ):P:=h
theorem C2u{P:Prop}(h:P:=by
 refine ED HF1 ?_ ⟨Blk.cell1 P0.out,Blk.cell2 P0.out⟩
 repeat(first|((first|refine Dx ?_|refine Dy ?_);intro K hK;go_big_quiet_op;go_big_quiet_on)|((first|refine Dz ?_|refine EA ?_);simp only[Act.put,AB,AE,AF]))
 refine A0s ?_
 go_wp2_with fail
 refine(HAP.out _ (by first|exact PB|exact PB.drew)).mono ?_
 rintro e w4 ⟨rfl,hbn⟩
 replace P0:=AA (Blk.below' (w:=w3) P0.out hbn)
 replace P1:=AA (Blk.below' (w:=w3) P1.out hbn)
 replace P2:=AA (Blk.below' P2.out hbn)
 replace PB:=A0h (w2:=w3) (by first|exact PB|exact PB.drew) hbn
 clear hbn
 go_wp2_with fail
 exact C0u
 ):P:=h
theorem C2v{P:Prop}(h:P:=by
 refine ED HF1 ?_ ⟨Blk.cell1 P0.out,Blk.cell2 P0.out⟩
 repeat(first|((first|refine Dx ?_|refine Dy ?_);intro K hK;go_big_quiet_op;go_big_quiet_on)|((first|refine Dz ?_|refine EA ?_);simp only[Act.put,AB,AE,AF]))
 refine A0s ?_
 go_wp2_with fail
 refine(HAP.out _ (by first|exact PB|exact PB.drew)).mono ?_
 rintro e w4 ⟨rfl,hbn⟩
 replace P0:=AA (Blk.below' (w:=w3) P0.out hbn)
 replace P1:=AA (Blk.below' (w:=w3) P1.out hbn)
 replace P2:=AA (Blk.below' P2.out hbn)
 replace PB:=A0h (w2:=w3) (by first|exact PB|exact PB.drew) hbn
 clear hbn
 go_wp2_with fail
 exact C0n
 ):P:=h
theorem C0l{P:Prop}(h:P:=by
 exact⟨⟨B9d HO9.out HG6.out (show w.heap.size<w6.heap.size by omega) hg26,RdK.nil_ _ K 1,⟨by rw[l1];exact Nat.sub_le_sub_right HC8.out.1 _,AQ (Nat.sub_le _ _) HC8.out.2⟩,⟨AD _,AS _⟩⟩,bel6 (bel1 (bel1 (bel1 HB8.out (AD _)) (AD _)) (AD _)) (le2 _)⟩
 ):P:=h
theorem C2H{P:Prop}(h:P:=by
 go_wp2_with fail
 (apply bodyPost_ret;(simp[results,Tryz.results64,go_sem,d0,d1,d2];rfl);rfl)
 exact⟨rfl,Ds⟩
 ):P:=h
theorem refPg6(r:Rc)(x:Dd)(K:Nat→Prop)(w:World)(hf:RfOk w K r x)(hkk:x.kind=6):Calls Tryz.prog 37 #[r.val,x.val,.func (.func 10) #[] #[]] w (A2S w K r x):=by
 have hq:=pg6 (s:=r.s) hkk
 obtain⟨hr,hK,hok,hre,hxm,htb,⟨mx,hmx⟩,hmg⟩:=hf
 have HR:=AA hr
 have HOK:=AA hok
 have HRE:Hid (∀W,Below w.heap.size w W→Rd W w.heap.size 3 x.A x.m (A0f x.l)):=fun W hW=>hre.below hW
 have HTB:Hid (∀W,Below w.heap.size w W→TabI W):=fun W hW=>A0c htb hW
 have HMX:Hid (∀W,Below w.heap.size w W→W.cell? ⟨0,0,none⟩=some (.int .i64 mx)):=fun W hb=>(hb.cell (p:=⟨0,0,none⟩) hmg).trans hmx
 have HKK:=AA hK
 have HP3:=AA (A5A w r.arr x)
 have hbA:Below w.heap.size w (((w.alloc (.cells r.arr 82)).alloc (.cells x.cells 32)).alloc (.cells A1u 82)):=Ds
 have HBA:=AA hbA
 unfold A2S
 obtain⟨wA,hwA⟩:∃wA,wA=(((w.alloc (.cells r.arr 82)).alloc (.cells x.cells 32)).alloc (.cells A1u 82)):=⟨_,rfl⟩
 rw[←hwA] at HP3 HBA
 have HWA:=AA hwA
 clear hwA
 clear hr hK hok hre htb hmx hbA
 rw[hq.1,hq.2]
 clear hq
 have HLP:=AA (fun W (hW:Below w.heap.size w W)=>B4J r.s.tx r.s.d r.s.sf x.num mx W HOK.out.lf (HMX.out W hW) (AO hmg hW.size))
 have HTS:Hid (¬(pkE x.num=0∧x.num≠0)→pkT r.s.tx r.s.d r.s.sf x.num=r.s.tx∧paP r.s x.num={r.s with d:=pkD r.s.tx r.s.d r.s.sf x.num,sf:=pkF r.s.tx r.s.d r.s.sf x.num}):=fun h=>⟨A8c h,by unfold paP;rw[if_neg h]⟩
 have HTN:Hid (pkE x.num=0∧x.num≠0→paP r.s x.num=⟨r.s.nm,pkT r.s.tx r.s.d r.s.sf x.num,pkD r.s.tx r.s.d r.s.sf x.num,pkF r.s.tx r.s.d r.s.sf x.num,[],[]⟩):=fun h=>by unfold paP;rw[if_pos h]
 obtain⟨xk,xn,xnm,xt,xA,xm,xc,xl⟩:=x
 obtain⟨⟨rn,rtx,rd,rsf,rb,ro⟩,rAb,rcb,rAo,rco⟩:=r
 unfold Dd.val Rc.val
 unfold Rc.arr Dd.cells at HWA
 unfold Rc.arr at HP3
 simp only at*
 subst hkk
 obtain⟨nb,hnb⟩:∃nb,rb.length=nb:=⟨_,rfl⟩
 obtain⟨no,hno⟩:∃no,ro.length=no:=⟨_,rfl⟩
 rw[hnb,hno] at HP3 HWA⊢
 have HNB:=AA hnb
 have HNO:=AA hno
 clear hnb hno
 generalize pkT rtx rd rsf xn=tx' at*
 generalize pkD rtx rd rsf xn=d' at*
 generalize pkF rtx rd rsf xn=sf' at*
 by_cases hz:pkE xn=0∧xn≠0
 ·have g1:(xn !=0)=true:=by rw[Be];exact hz.2
  rw[hz.1] at HLP⊢
  rw[HTN.out hz]
  clear hz HTS HTN
  exact C0E
 ·obtain⟨h1,h2⟩:=HTS.out hz
  subst h1
  rw[h2]
  have hgd:(pkE xn==0)=true∧(xn !=0)=false∨(pkE xn==0)=false:=by
   by_cases h3:pkE xn=0
   ·exact .inl ⟨by rw[At];exact h3,by rw[bne_eq_false_iff_eq];exact Decidable.not_not.1 fun h4=>hz ⟨h3,h4⟩⟩
   ·exact .inr (by rw[AH];exact h3)
  clear hz HTS HTN h2
  generalize pkE xn=z at*
  have HAT:Hid (∀W,Below w.heap.size w W→RcAt W K ⟨⟨rn,tx',d',sf',rb,ro⟩,rAb,rcb,rAo,rco⟩):=fun W hW=>⟨(HR.out.below hW).b,(HR.out.below hW).o,(HR.out.below hW).cb,(HR.out.below hW).co⟩
  rcases hgd with⟨g1,g2⟩|g1
  ·exact C0H
  ·exact C0H
theorem refPg7(r:Rc)(x:Dd)(K:Nat→Prop)(w:World)(hf:RfOk w K r x)(hkk:x.kind=7):Calls Tryz.prog 37 #[r.val,x.val,.func (.func 10) #[] #[]] w (A2S w K r x):=by
 have hq:=pg7 (s:=r.s) hkk
 obtain⟨hr,hK,hok,hre,hxm,htb,⟨mx,hmx⟩,hmg⟩:=hf
 have HR:=AA hr
 have HOK:=AA hok
 have HRE:Hid (∀W,Below w.heap.size w W→Rd W w.heap.size 3 x.A x.m (A0f x.l)):=fun W hW=>hre.below hW
 have HTB:Hid (∀W,Below w.heap.size w W→TabI W):=fun W hW=>A0c htb hW
 have HMX:Hid (∀W,Below w.heap.size w W→W.cell? ⟨0,0,none⟩=some (.int .i64 mx)):=fun W hb=>(hb.cell (p:=⟨0,0,none⟩) hmg).trans hmx
 have HKK:=AA hK
 have HP3:=AA (A5A w r.arr x)
 have hbA:Below w.heap.size w (((w.alloc (.cells r.arr 82)).alloc (.cells x.cells 32)).alloc (.cells A1u 82)):=Ds
 have HBA:=AA hbA
 unfold A2S
 obtain⟨wA,hwA⟩:∃wA,wA=(((w.alloc (.cells r.arr 82)).alloc (.cells x.cells 32)).alloc (.cells A1u 82)):=⟨_,rfl⟩
 rw[←hwA] at HP3 HBA
 have HWA:=AA hwA
 clear hwA
 clear hr hK hok hre htb hmx hbA
 rw[hq.1,hq.2]
 clear hq
 have HLP:=AA (fun W (hW:Below w.heap.size w W)=>A7V r.s.tx r.s.d r.s.sf x.num mx W HOK.out.lf (HMX.out W hW) (AO hmg hW.size))
 have HTS:Hid (A0D r.s.d r.s.sf x.num≠0→cfLT r.s.tx r.s.d r.s.sf x.num=r.s.tx∧craD r.s.d r.s.sf x.num=r.s.d∧craF r.s.d r.s.sf x.num=r.s.sf∧crP r.s x.num=r.s):=fun h=>⟨by unfold cfLT;rw[if_neg h],(A3W h).1,(A3W h).2,by unfold crP crPE;rw[if_neg h]⟩
 have HTN:Hid (A0D r.s.d r.s.sf x.num=0→crP r.s x.num=⟨r.s.nm,cfLT r.s.tx r.s.d r.s.sf x.num,craD r.s.d r.s.sf x.num,craF r.s.d r.s.sf x.num,[],[]⟩):=fun h=>by unfold crP crPE;rw[if_pos h]
 unfold crPE
 obtain⟨xk,xn,xnm,xt,xA,xm,xc,xl⟩:=x
 obtain⟨⟨rn,rtx,rd,rsf,rb,ro⟩,rAb,rcb,rAo,rco⟩:=r
 unfold Dd.val Rc.val
 unfold Rc.arr Dd.cells at HWA
 unfold Rc.arr at HP3
 simp only at*
 subst hkk
 obtain⟨nb,hnb⟩:∃nb,rb.length=nb:=⟨_,rfl⟩
 obtain⟨no,hno⟩:∃no,ro.length=no:=⟨_,rfl⟩
 rw[hnb,hno] at HP3 HWA⊢
 have HNB:=AA hnb
 have HNO:=AA hno
 clear hnb hno
 by_cases hz:A0D rd rsf xn=0
 ·rw[hz] at HLP⊢
  rw[HTN.out hz]
  clear hz HTS HTN
  generalize cfLT rtx rd rsf xn=tx' at*
  generalize craD rd rsf xn=d' at*
  generalize craF rd rsf xn=sf' at*
  exact C0E
 ·obtain⟨h1,h2,h3,h4⟩:=HTS.out hz
  rw[h1,h2,h3] at HLP
  rw[h4]
  have g1:(A0D rd rsf xn==0)=false:=by rw[AH];exact hz
  clear hz HTS HTN h1 h2 h3 h4
  generalize A0D rd rsf xn=z at*
  go_enter Tryz.func37,Tryz.ntmps37
  go_wp2_with fail
  rw[←HWA.out]
  refine(HLP.out wA HBA.out).mono ?_
  rintro e w1 ⟨rfl,hb1⟩
  have HB1:=AA (HBA.out.trans (hb1.mono HBA.out.size))
  have HP:=AA (HP3.out.below hb1)
  clear hb1
  have e0:=HP.out.p.cell 0;have e1:=HP.out.p.cell 1;have e2:=HP.out.p.cell 2;have e3:=HP.out.p.cell 3;have e4:=HP.out.p.cell 4;have e5:=HP.out.p.cell 5
  have ef0:=HP.out.p.frozen 0;have ef1:=HP.out.p.frozen 1;have ef2:=HP.out.p.frozen 2;have ef3:=HP.out.p.frozen 3;have ef4:=HP.out.p.frozen 4;have ef5:=HP.out.p.frozen 5
  have d1:w1.cell? ⟨w.heap.size+1,1,none⟩=some (.int .i64 xn):=HP.out.d.cell 1
  have d3:w1.cell? ⟨w.heap.size+1,3,none⟩=some (.string xt):=HP.out.d.cell 3
  have d4:w1.cell? ⟨w.heap.size+1,4,none⟩=some (.slice xA xm xc):=HP.out.d.cell 4
  have z0:w1.cell? ⟨w.heap.size+1+1,0,none⟩=some (.string ⟨#[]⟩):=HP.out.z.cell 0
  have z1:w1.cell? ⟨w.heap.size+1+1,1,none⟩=some (.string ⟨#[]⟩):=HP.out.z.cell 1
  have z2:w1.cell? ⟨w.heap.size+1+1,2,none⟩=some (.string ⟨#[]⟩):=HP.out.z.cell 2
  have z3:w1.cell? ⟨w.heap.size+1+1,3,none⟩=some (.int .i64 0):=HP.out.z.cell 3
  have z4:w1.cell? ⟨w.heap.size+1+1,4,none⟩=some (.slice none 0 0):=HP.out.z.cell 4
  have z5:w1.cell? ⟨w.heap.size+1+1,5,none⟩=some (.slice none 0 0):=HP.out.z.cell 5
  have zf0:=HP.out.z.frozen 0;have zf1:=HP.out.z.frozen 1;have zf2:=HP.out.z.frozen 2;have zf3:=HP.out.z.frozen 3;have zf4:=HP.out.z.frozen 4;have zf5:=HP.out.z.frozen 5
  go_wp2_with fail
  (apply bodyPost_ret;(simp[results,Tryz.results37,go_sem,z0,z1,z2,z3,z4,z5];rfl);rfl)
  have hB1:=HB1.out
  refine⟨⟨⟨rn,rtx,rd,rsf,rb,ro⟩,rAb,rcb,rAo,rco⟩, ?_,rfl,A3r (bel6 (bel3 hB1) (le2 _)) (fun W hW=>HR.out.below hW)⟩
  rw[←HNB.out,←HNO.out]
theorem refPg3(r:Rc)(x:Dd)(K:Nat→Prop)(w:World)(hf:RfOk w K r x)(hkk:x.kind=3):Calls Tryz.prog 37 #[r.val,x.val,.func (.func 10) #[] #[]] w (A2S w K r x):=by
 obtain⟨i0,hi0,hz0,hz1,hz2⟩:=info_parts A2C
 have hq:=pg3 (s:=r.s) hkk
 obtain⟨hr,hK,hok,hre,hxm,htb,⟨mx,hmx⟩,hmg⟩:=hf
 have HR:=AA hr
 have HOK:=AA hok
 have HRE:Hid (∀W,Below w.heap.size w W→Rd W w.heap.size 3 x.A x.m (A0f x.l)):=fun W hW=>hre.below hW
 have HTB:Hid (∀W,Below w.heap.size w W→TabI W):=fun W hW=>A0c htb hW
 have HMX:Hid (∀W,Below w.heap.size w W→W.cell? ⟨0,0,none⟩=some (.int .i64 mx)):=fun W hb=>(hb.cell (p:=⟨0,0,none⟩) hmg).trans hmx
 have HKK:=AA hK
 have HP3:=AA (A5A w r.arr x)
 have hbA:Below w.heap.size w (((w.alloc (.cells r.arr 82)).alloc (.cells x.cells 32)).alloc (.cells A1u 82)):=Ds
 have HBA:=AA hbA
 unfold A2S
 obtain⟨wA,hwA⟩:∃wA,wA=(((w.alloc (.cells r.arr 82)).alloc (.cells x.cells 32)).alloc (.cells A1u 82)):=⟨_,rfl⟩
 rw[←hwA] at HP3 HBA
 have HWA:=AA hwA
 clear hwA
 clear hr hK hok hre htb hmx hbA
 rw[hq.1,hq.2]
 clear hq
 have hn30:r.s.back.length+r.s.onward.length≤30:=HOK.out.es.n
 by_cases h0:r.s.back.length=0
 ·have HE:Hid (unPE r.s=4):=by unfold Hid unPE;rw[if_pos h0]
  have HPP:Hid (unP r.s=r.s):=by unfold Hid unP;rw[if_neg (by rw[HE.out];decide)]
  rw[HE.out,HPP.out]
  obtain⟨xk,xn,xnm,xt,xA,xm,xc,xl⟩:=x
  obtain⟨⟨rn,rtx,rd,rsf,rb,ro⟩,rAb,rcb,rAo,rco⟩:=r
  unfold Dd.val Rc.val
  unfold Rc.arr Dd.cells at HWA
  unfold Rc.arr at HP3
  simp only at*
  subst hkk
  obtain⟨nb,hnb⟩:∃nb,rb.length=nb:=⟨_,rfl⟩
  obtain⟨no,hno⟩:∃no,ro.length=no:=⟨_,rfl⟩
  rw[hnb,hno] at HP3 HWA⊢
  have HNB:=AA hnb
  have HNO:=AA hno
  clear hnb hno
  have h0':nb=0:=by rw[←HNB.out];exact h0
  subst h0'
  exact C1m
 ·have HE:Hid (unPE r.s=lsE r.s.d (unT r.s)):=by unfold Hid unPE;rw[if_neg h0]
  have HLS:=AA (fun W=>B0x r.s.tx r.s.d (unT r.s) r.s.sf W HOK.out.lf.size)
  have HPN:Hid (lsE r.s.d (unT r.s)≠0→unP r.s=r.s∧lsT r.s.tx r.s.d (unT r.s)=r.s.tx∧lsD r.s.d (unT r.s)=r.s.d):=fun hz=>⟨by unfold unP;rw[if_neg (by rw[HE.out];exact hz)],by unfold lsT;rw[if_neg hz],by unfold lsD;rw[if_neg hz]⟩
  have HPZ:Hid (lsE r.s.d (unT r.s)=0→unP r.s={r.s with tx:=unT r.s,d:=lsD r.s.d (unT r.s),back:=r.s.back.take (r.s.back.length-1),onward:=r.s.onward++ [L r.s.tx]}∧lsT r.s.tx r.s.d (unT r.s)=unT r.s):=fun hz=>⟨by unfold unP;rw[if_pos (by rw[HE.out];exact hz)],by unfold lsT;rw[if_pos hz]⟩
  have HTT:Hid (S (r.s.back.getD (r.s.back.length-1) [])=unT r.s):=rfl
  rw[HE.out]
  clear HE
  obtain⟨xk,xn,xnm,xt,xA,xm,xc,xl⟩:=x
  obtain⟨⟨rn,rtx,rd,rsf,rb,ro⟩,rAb,rcb,rAo,rco⟩:=r
  unfold Dd.val Rc.val
  unfold Rc.arr Dd.cells at HWA
  unfold Rc.arr at HP3
  simp only at*
  subst hkk
  obtain⟨nb,hnb⟩:∃nb,rb.length=nb:=⟨_,rfl⟩
  obtain⟨no,hno⟩:∃no,ro.length=no:=⟨_,rfl⟩
  rw[hnb,hno] at HP3 HWA⊢
  have HNB:=AA hnb
  have HNO:=AA hno
  clear hnb hno
  have hnz:¬nb=0:=by rw[←HNB.out];exact h0
  obtain⟨m,hm⟩:∃m,nb=m+1:=⟨nb-1,by omega⟩
  rw[HNB.out,HNO.out] at hn30
  subst hm
  clear hnz h0
  have hTT:=HTT.out
  rw[HNB.out,Cc] at hTT
  obtain⟨T,hT⟩:∃T,unT ⟨rn,rtx,rd,rsf,rb,ro⟩=T:=⟨_,rfl⟩
  rw[hT] at HLS HPN HPZ hTT⊢
  rw[HNB.out,Cc] at HPZ
  clear hT HTT
  have hrf:=HR.out.b
  have hro:=HR.out.o
  have hcc:=HR.out.cb
  have hcd:=HR.out.co
  simp only at hrf hro hcc hcd
  rw[HNB.out] at hrf
  rw[HNO.out] at hro
  rw[HNB.out] at hcc
  rw[HNO.out] at hcd
  have HRO:Hid (∀W,Below w.heap.size w W→Rd W w.heap.size 1 rAo no (strCells ro)):=fun W hW=>hro.rd.below hW
  have HCUT:Hid (∀W,Below w.heap.size w W→RdK W K 1 rAb (rb.take m).length (strCells (rb.take m))):=fun W hW=>by
   rw[AV,HNB.out,BX (DI m)]
   exact(hrf.below hW).preS (DI m)
  have hmc:m+1≤rcb:=hcc.1
  have hmx:rcb≤maxLen:=hcc.2
  have HMX2:=AA hmx
  unfold maxLen at hmx
  obtain⟨ad,eA,hab,hcl⟩:=A2t (k:=m) (hrf.rd.below HBA.out) EE
  cases eA
  rw[hTT] at hcl
  clear hrf hro hcc hcd hTT
  have q1:wA.cell? ⟨w.heap.size,4,none⟩=some (.slice (some ad) (m+1) rcb):=HP3.out.p.cell 4
  have hgA:w.heap.size<wA.heap.size:=HP3.out.p.lt
  go_enter Tryz.func37,Tryz.ntmps37
  go_wp2_with fail
  rw[←HWA.out]
  clear HWA
  obtain⟨F1,HF1,hcell10,hcell11⟩:=cells2 ⟨w.heap.size,4,none⟩ (.slice (some ad) (m+1) rcb) (ad.add m) (.string T)
  refine EB [(0,true),(2,true),(3,true),(4,true),(5,true),(6,true),(7,true),(8,true),(1,false),(9,false),(10,true),(11,true),(12,true),(13,true),(14,false),(15,true)] HF1 ?_
  intro hne1
  simp only[A0i,AT,AP,AR]
  repeat(first|((first|refine Dt ?_|refine Du ?_);intro K hK;go_big_quiet_op;go_big_quiet_on)|((first|refine Dv ?_|refine Dw ?_);simp only[Act.put,AB,AE,AF]))
  have HP:=AA (HP3.out.below (Bl (AI _ _)))
  have hbd:Below wA.heap.size wA wA.drew:=Bl (AI _ _)
  have e0:=HP.out.p.cell 0;have e1:=HP.out.p.cell 1;have e2:=HP.out.p.cell 2;have e3:=HP.out.p.cell 3;have e4:=HP.out.p.cell 4;have e5:=HP.out.p.cell 5
  have ef0:=HP.out.p.frozen 0;have ef1:=HP.out.p.frozen 1;have ef2:=HP.out.p.frozen 2;have ef3:=HP.out.p.frozen 3;have ef4:=HP.out.p.frozen 4;have ef5:=HP.out.p.frozen 5
  have d1:wA.drew.cell? ⟨w.heap.size+1,1,none⟩=some (.int .i64 xn):=HP.out.d.cell 1
  have d3:wA.drew.cell? ⟨w.heap.size+1,3,none⟩=some (.string xt):=HP.out.d.cell 3
  have d4:wA.drew.cell? ⟨w.heap.size+1,4,none⟩=some (.slice xA xm xc):=HP.out.d.cell 4
  have z0:wA.drew.cell? ⟨w.heap.size+1+1,0,none⟩=some (.string ⟨#[]⟩):=HP.out.z.cell 0
  have z1:wA.drew.cell? ⟨w.heap.size+1+1,1,none⟩=some (.string ⟨#[]⟩):=HP.out.z.cell 1
  have z2:wA.drew.cell? ⟨w.heap.size+1+1,2,none⟩=some (.string ⟨#[]⟩):=HP.out.z.cell 2
  have z3:wA.drew.cell? ⟨w.heap.size+1+1,3,none⟩=some (.int .i64 0):=HP.out.z.cell 3
  have z4:wA.drew.cell? ⟨w.heap.size+1+1,4,none⟩=some (.slice none 0 0):=HP.out.z.cell 4
  have z5:wA.drew.cell? ⟨w.heap.size+1+1,5,none⟩=some (.slice none 0 0):=HP.out.z.cell 5
  have zf0:=HP.out.z.frozen 0;have zf1:=HP.out.z.frozen 1;have zf2:=HP.out.z.frozen 2;have zf3:=HP.out.z.frozen 3;have zf4:=HP.out.z.frozen 4;have zf5:=HP.out.z.frozen 5
  refine A0a ?_
  go_wp2_with fail
  refine ED HF1 ?_ ⟨q1,hcl⟩
  repeat(first|((first|refine Dt ?_|refine Du ?_);intro K hK;go_big_quiet_op;go_big_quiet_on)|((first|refine Dv ?_|refine Dw ?_);simp only[Act.put,AB,AE,AF]))
  refine A0a ?_
  go_wp2_with fail
  clear e0 e1 e2 e3 e4 e5 ef0 ef1 ef2 ef3 ef4 ef5 d1 d3 d4 z0 z1 z2 z3 z4 z5 zf0 zf1 zf2 zf3 zf4 zf5
  refine(HLS.out wA.drew).mono ?_
  rintro e w5 ⟨rfl,hb5⟩
  have hb5A:Below wA.heap.size wA w5:=hbd.trans (hb5.mono hbd.size)
  have HB5:=AA (HBA.out.trans (hb5A.mono HBA.out.size))
  have HP5:=AA (HP3.out.below hb5A)
  have q1':=(hb5A.cell (p:=⟨w.heap.size,4,none⟩) hgA).trans q1
  have hcl':=(hb5A.cell (p:=ad.add m) (by rw[A0z];omega)).trans hcl
  clear HP hb5 hb5A hbd HP3 HBA
  go_wp2_with fail
  refine ED HF1 ?_ ⟨q1',hcl'⟩
  repeat(first|((first|refine Dt ?_|refine Du ?_);intro K hK;go_big_quiet_op;go_big_quiet_on)|((first|refine Dv ?_|refine Dw ?_);simp only[Act.put,AB,AE,AF]))
  refine A0a ?_
  have HP:=HP5
  have e0:=HP.out.p.cell 0;have e1:=HP.out.p.cell 1;have e2:=HP.out.p.cell 2;have e3:=HP.out.p.cell 3;have e4:=HP.out.p.cell 4;have e5:=HP.out.p.cell 5
  have ef0:=HP.out.p.frozen 0;have ef1:=HP.out.p.frozen 1;have ef2:=HP.out.p.frozen 2;have ef3:=HP.out.p.frozen 3;have ef4:=HP.out.p.frozen 4;have ef5:=HP.out.p.frozen 5
  have d1:w5.cell? ⟨w.heap.size+1,1,none⟩=some (.int .i64 xn):=HP.out.d.cell 1
  have d3:w5.cell? ⟨w.heap.size+1,3,none⟩=some (.string xt):=HP.out.d.cell 3
  have d4:w5.cell? ⟨w.heap.size+1,4,none⟩=some (.slice xA xm xc):=HP.out.d.cell 4
  have z0:w5.cell? ⟨w.heap.size+1+1,0,none⟩=some (.string ⟨#[]⟩):=HP.out.z.cell 0
  have z1:w5.cell? ⟨w.heap.size+1+1,1,none⟩=some (.string ⟨#[]⟩):=HP.out.z.cell 1
  have z2:w5.cell? ⟨w.heap.size+1+1,2,none⟩=some (.string ⟨#[]⟩):=HP.out.z.cell 2
  have z3:w5.cell? ⟨w.heap.size+1+1,3,none⟩=some (.int .i64 0):=HP.out.z.cell 3
  have z4:w5.cell? ⟨w.heap.size+1+1,4,none⟩=some (.slice none 0 0):=HP.out.z.cell 4
  have z5:w5.cell? ⟨w.heap.size+1+1,5,none⟩=some (.slice none 0 0):=HP.out.z.cell 5
  have zf0:=HP.out.z.frozen 0;have zf1:=HP.out.z.frozen 1;have zf2:=HP.out.z.frozen 2;have zf3:=HP.out.z.frozen 3;have zf4:=HP.out.z.frozen 4;have zf5:=HP.out.z.frozen 5
  go_wp2_with fail
  clear e0 e1 e2 e3 e4 e5 ef0 ef1 ef2 ef3 ef4 ef5 d1 d3 d4 z0 z1 z2 z3 z4 z5 zf0 zf1 zf2 zf3 zf4 zf5
  have HP6:Hid (P3 (((w5.setCell ⟨w.heap.size,1,none⟩ (.string (lsT rtx rd T))).setCell ⟨w.heap.size,2,none⟩ (.string (lsD rd T))).setCell ⟨w.heap.size,3,none⟩ (.int .i64 (rsf:Int))) w.heap.size #[.string rn,.string (lsT rtx rd T),.string (lsD rd T),.int .i64 (rsf:Int),.slice (some ad) (m+1) rcb,.slice rAo no rco] ⟨3,xn,xnm,xt,xA,xm,xc,xl⟩):=((HP5.out.set_ 1 _).set_ 2 _).set_ 3 _
  have HB6:Hid (Below w.heap.size w (((w5.setCell ⟨w.heap.size,1,none⟩ (.string (lsT rtx rd T))).setCell ⟨w.heap.size,2,none⟩ (.string (lsD rd T))).setCell ⟨w.heap.size,3,none⟩ (.int .i64 (rsf:Int)))):=bel3 HB5.out
  have q1'':=HP6.out.p.cell 4
  have hadg:ad.block≠w.heap.size:=EE
  have hcl'':(((w5.setCell ⟨w.heap.size,1,none⟩ (.string (lsT rtx rd T))).setCell ⟨w.heap.size,2,none⟩ (.string (lsD rd T))).setCell ⟨w.heap.size,3,none⟩ (.int .i64 (rsf:Int))).cell? (ad.add m)=some (.string T):=by
   exact C1o
  clear HP HP5 HB5 q1 q1' hcl hcl' hadg
  generalize(((w5.setCell ⟨w.heap.size,1,none⟩ (.string (lsT rtx rd T))).setCell ⟨w.heap.size,2,none⟩ (.string (lsD rd T))).setCell ⟨w.heap.size,3,none⟩ (.int .i64 (rsf:Int)))=w6 at*
  refine ED HF1 ?_ ⟨q1'',hcl''⟩
  repeat(first|((first|refine Dt ?_|refine Du ?_);intro K hK;go_big_quiet_op;go_big_quiet_on)|((first|refine Dv ?_|refine Dw ?_);simp only[Act.put,AB,AE,AF]))
  refine A0g ?_
  clear HF1 hcell10 hcell11 hne1 q1'' hcl''
  by_cases hz:lsE rd T=0
  ·obtain⟨hp1,hp2⟩:=HPZ.out hz
   rw[hp2] at HP6
   have HP1:=AA hp1
   have HZ:=AA hz
   rw[HZ.out]
   generalize hDD:lsD rd T=D' at*
   have HCL:=AA (A5z rAo no rco w.heap.size ro w6 (HRO.out w6 HB6.out) HB6.out.size EE)
   have HP:=HP6
   clear hz hp1 hp2 HPZ HPN HLS hDD
   have e0:=HP.out.p.cell 0;have e1:=HP.out.p.cell 1;have e2:=HP.out.p.cell 2;have e3:=HP.out.p.cell 3;have e4:=HP.out.p.cell 4;have e5:=HP.out.p.cell 5
   have ef0:=HP.out.p.frozen 0;have ef1:=HP.out.p.frozen 1;have ef2:=HP.out.p.frozen 2;have ef3:=HP.out.p.frozen 3;have ef4:=HP.out.p.frozen 4;have ef5:=HP.out.p.frozen 5
   have d1:w6.cell? ⟨w.heap.size+1,1,none⟩=some (.int .i64 xn):=HP.out.d.cell 1
   have d3:w6.cell? ⟨w.heap.size+1,3,none⟩=some (.string xt):=HP.out.d.cell 3
   have d4:w6.cell? ⟨w.heap.size+1,4,none⟩=some (.slice xA xm xc):=HP.out.d.cell 4
   have z0:w6.cell? ⟨w.heap.size+1+1,0,none⟩=some (.string ⟨#[]⟩):=HP.out.z.cell 0
   have z1:w6.cell? ⟨w.heap.size+1+1,1,none⟩=some (.string ⟨#[]⟩):=HP.out.z.cell 1
   have z2:w6.cell? ⟨w.heap.size+1+1,2,none⟩=some (.string ⟨#[]⟩):=HP.out.z.cell 2
   have z3:w6.cell? ⟨w.heap.size+1+1,3,none⟩=some (.int .i64 0):=HP.out.z.cell 3
   have z4:w6.cell? ⟨w.heap.size+1+1,4,none⟩=some (.slice none 0 0):=HP.out.z.cell 4
   have z5:w6.cell? ⟨w.heap.size+1+1,5,none⟩=some (.slice none 0 0):=HP.out.z.cell 5
   have zf0:=HP.out.z.frozen 0;have zf1:=HP.out.z.frozen 1;have zf2:=HP.out.z.frozen 2;have zf3:=HP.out.z.frozen 3;have zf4:=HP.out.z.frozen 4;have zf5:=HP.out.z.frozen 5
   go_wp2_with fail
   clear e0 e1 e2 e3 e4 e5 ef0 ef1 ef2 ef3 ef4 ef5 d1 d3 d4 z0 z1 z2 z3 z4 z5 zf0 zf1 zf2 zf3 zf4 zf5
   refine HCL.out.mono ?_
   rintro e w7 ⟨v7,rfl,hown7,hb7⟩
   have HB7:=AA (HB6.out.trans (hb7.mono HB6.out.size))
   have HP7:=AA (HP6.out.below hb7)
   have hs67:=hb7.size
   have hs6:=HB6.out.size
   have hg26:w.heap.size+1+1<w6.heap.size:=HP6.out.z.lt
   have hnew:=BL w7 (.string rtx) 9
   have hownA:=hown7.alloc (.cells #[.string rtx] 9)
   have HG6:Hid (∀k,K k→k<w6.heap.size):=fun k hk=>AO (HKK.out k hk) hs6
   have HP7A:=AA (HP7.out.below ((AI w7.heap.size w7).alloc (AD _) (.cells #[.string rtx] 9)))
   have HB67:Hid (Below w6.heap.size w6 (w7.alloc (.cells #[.string rtx] 9))):=hb7.alloc hs67 _
   have HP6K:=HP6
   have hOTL:ro.length=no:=HNO.out
   have HOTL:=AA hOTL
   clear HP6 HCL hb7 HP hOTL
   have hsz8:w6.heap.size≤(w7.alloc (.cells #[.string rtx] 9)).heap.size:=HB67.out.size
   go_wp2_with (at_builtin;go_must (refine A0r rfl _ _ _ rfl w6.heap.size 9 i0 _ 1 16 Tryz.underlying25 hi0 hz0 hz1 hz2 rfl EE _ no (strCells ro) rfl hownA ⟨w7.heap.size,0,none⟩ 1 1 [.string rtx] rfl rfl hnew (by simp[Value.oneCell']) EE EE (by simp at hsz8⊢;omega) ?_);intro v8 w8 hown8 hg8 hb8;have hO8:=OwnO.of_own hown8;obtain⟨A8,c8,rfl,hn8,hm8,_⟩:=OwnO.form hO8;have HO8:=AA hO8;have HB8:=AA (HB6.out.trans ((HB67.out.trans hb8).mono HB6.out.size));have HP:=AA (HP6K.out.below (HB67.out.trans hb8));clear hown8 hg8 hb8 hO8 hownA hnew;have e0:=HP.out.p.cell 0;have e1:=HP.out.p.cell 1;have e2:=HP.out.p.cell 2;have e3:=HP.out.p.cell 3;have e4:=HP.out.p.cell 4;have e5:=HP.out.p.cell 5;have ef4:=HP.out.p.frozen 4;have ef5:=HP.out.p.frozen 5;have z0:w8.cell? ⟨w.heap.size+1+1,0,none⟩=some (.string ⟨#[]⟩):=HP.out.z.cell 0;have z1:w8.cell? ⟨w.heap.size+1+1,1,none⟩=some (.string ⟨#[]⟩):=HP.out.z.cell 1;have z2:w8.cell? ⟨w.heap.size+1+1,2,none⟩=some (.string ⟨#[]⟩):=HP.out.z.cell 2;have z3:w8.cell? ⟨w.heap.size+1+1,3,none⟩=some (.int .i64 0):=HP.out.z.cell 3;have z4:w8.cell? ⟨w.heap.size+1+1,4,none⟩=some (.slice none 0 0):=HP.out.z.cell 4;have z5:w8.cell? ⟨w.heap.size+1+1,5,none⟩=some (.slice none 0 0):=HP.out.z.cell 5;have zf0:=HP.out.z.frozen 0;have zf1:=HP.out.z.frozen 1;have zf2:=HP.out.z.frozen 2;have zf3:=HP.out.z.frozen 3;have zf4:=HP.out.z.frozen 4;have zf5:=HP.out.z.frozen 5)
   (apply bodyPost_ret;(simp[results,Tryz.results37,go_sem,z0,z1,z2,z3,z4,z5];rfl);rfl)
   have l1:(rb.take m).length=m:=by rw[AV,HNB.out,BX (DI m)]
   have l2:(ro++ [L rtx]).length=no+1:=by rw[AJ,HOTL.out];rfl
   have e:strCells (ro++ [L rtx])=strCells ro++ [.string rtx]:=by unfold strCells;rw[BM];rfl
   have hO9:OwnO w8 w6.heap.size 9 1 (.slice A8 (no+1) c8) (ro++ [L rtx]).length (strCells (ro++ [L rtx])):=by rw[l2,e];exact HO8.out
   obtain⟨A9,c9,hv9,_,_,ho⟩:=RdK.own (own6 (a0:= .string rn) (a1:= .string T) (a2:= .string D') (a3:= .int .i64 (rsf:Int)) (a4:= .slice (some ad) m rcb) (a5:= .slice A8 (no+1) c8) (A5M (i:=4) (a:= .slice (some ad) m rcb) (A5M (i:=5) (a:= .slice A8 (no+1) c8) hO9 (show w.heap.size<w6.heap.size by omega)) (show w.heap.size<w6.heap.size by omega)) hg26) HG6.out
   rw[l2] at hv9
   cases hv9
   refine⟨⟨⟨rn,T,D',rsf,rb.take m,ro++ [L rtx]⟩,some ad,rcb,A8,c8⟩, ?_,HP1.out.symm, ?_⟩
   ·simp only[l1,l2]
    rw[HZ.out]
   ·refine⟨⟨HCUT.out _ (bel6 (bel1 (bel1 HB8.out (AD _)) (AD _)) (le2 _)),ho,⟨by rw[l1];exact Nat.le_of_succ_le hmc,HMX2.out⟩,⟨by rw[l2];exact hn8,hm8⟩⟩,bel6 (bel1 (bel1 HB8.out (AD _)) (AD _)) (le2 _)⟩
  ·obtain⟨hp1,hp2,hp3⟩:=HPN.out hz
   rw[hp2,hp3] at HP6
   have HP1:=AA hp1
   have g1:(lsE rd T==0)=false:=by rw[AH];exact hz
   have HP:=HP6
   clear hz hp1 hp2 hp3 HPZ HPN HLS
   have e0:=HP.out.p.cell 0;have e1:=HP.out.p.cell 1;have e2:=HP.out.p.cell 2;have e3:=HP.out.p.cell 3;have e4:=HP.out.p.cell 4;have e5:=HP.out.p.cell 5
   have ef0:=HP.out.p.frozen 0;have ef1:=HP.out.p.frozen 1;have ef2:=HP.out.p.frozen 2;have ef3:=HP.out.p.frozen 3;have ef4:=HP.out.p.frozen 4;have ef5:=HP.out.p.frozen 5
   have d1:w6.cell? ⟨w.heap.size+1,1,none⟩=some (.int .i64 xn):=HP.out.d.cell 1
   have d3:w6.cell? ⟨w.heap.size+1,3,none⟩=some (.string xt):=HP.out.d.cell 3
   have d4:w6.cell? ⟨w.heap.size+1,4,none⟩=some (.slice xA xm xc):=HP.out.d.cell 4
   have z0:w6.cell? ⟨w.heap.size+1+1,0,none⟩=some (.string ⟨#[]⟩):=HP.out.z.cell 0
   have z1:w6.cell? ⟨w.heap.size+1+1,1,none⟩=some (.string ⟨#[]⟩):=HP.out.z.cell 1
   have z2:w6.cell? ⟨w.heap.size+1+1,2,none⟩=some (.string ⟨#[]⟩):=HP.out.z.cell 2
   have z3:w6.cell? ⟨w.heap.size+1+1,3,none⟩=some (.int .i64 0):=HP.out.z.cell 3
   have z4:w6.cell? ⟨w.heap.size+1+1,4,none⟩=some (.slice none 0 0):=HP.out.z.cell 4
   have z5:w6.cell? ⟨w.heap.size+1+1,5,none⟩=some (.slice none 0 0):=HP.out.z.cell 5
   have zf0:=HP.out.z.frozen 0;have zf1:=HP.out.z.frozen 1;have zf2:=HP.out.z.frozen 2;have zf3:=HP.out.z.frozen 3;have zf4:=HP.out.z.frozen 4;have zf5:=HP.out.z.frozen 5
   go_wp2_with fail
   (apply bodyPost_ret;(simp[results,Tryz.results37,go_sem,z0,z1,z2,z3,z4,z5];rfl);rfl)
   refine⟨⟨⟨rn,rtx,rd,rsf,rb,ro⟩,some ad,rcb,rAo,rco⟩, ?_,HP1.out.symm,A3r (bel6 HB6.out (le2 _)) (fun W hW=>HR.out.below hW)⟩
   rw[HNB.out,HNO.out]
theorem refPg4(r:Rc)(x:Dd)(K:Nat→Prop)(w:World)(hf:RfOk w K r x)(hkk:x.kind=4):Calls Tryz.prog 37 #[r.val,x.val,.func (.func 10) #[] #[]] w (A2S w K r x):=by
 obtain⟨i0,hi0,hz0,hz1,hz2⟩:=info_parts A2C
 have hq:=pg4 (s:=r.s) hkk
 obtain⟨hr,hK,hok,hre,hxm,htb,⟨mx,hmx⟩,hmg⟩:=hf
 have HR:=AA hr
 have HOK:=AA hok
 have HRE:Hid (∀W,Below w.heap.size w W→Rd W w.heap.size 3 x.A x.m (A0f x.l)):=fun W hW=>hre.below hW
 have HTB:Hid (∀W,Below w.heap.size w W→TabI W):=fun W hW=>A0c htb hW
 have HMX:Hid (∀W,Below w.heap.size w W→W.cell? ⟨0,0,none⟩=some (.int .i64 mx)):=fun W hb=>(hb.cell (p:=⟨0,0,none⟩) hmg).trans hmx
 have HKK:=AA hK
 have HP3:=AA (A5A w r.arr x)
 have hbA:Below w.heap.size w (((w.alloc (.cells r.arr 82)).alloc (.cells x.cells 32)).alloc (.cells A1u 82)):=Ds
 have HBA:=AA hbA
 unfold A2S
 obtain⟨wA,hwA⟩:∃wA,wA=(((w.alloc (.cells r.arr 82)).alloc (.cells x.cells 32)).alloc (.cells A1u 82)):=⟨_,rfl⟩
 rw[←hwA] at HP3 HBA
 have HWA:=AA hwA
 clear hwA
 clear hr hK hok hre htb hmx hbA
 rw[hq.1,hq.2]
 clear hq
 have hn30:r.s.back.length+r.s.onward.length≤30:=HOK.out.es.n
 by_cases h0:r.s.onward.length=0
 ·have HE:Hid (rePE r.s=4):=by unfold Hid rePE;rw[if_pos h0]
  have HPP:Hid (reP r.s=r.s):=by unfold Hid reP;rw[if_neg (by rw[HE.out];decide)]
  rw[HE.out,HPP.out]
  obtain⟨xk,xn,xnm,xt,xA,xm,xc,xl⟩:=x
  obtain⟨⟨rn,rtx,rd,rsf,rb,ro⟩,rAb,rcb,rAo,rco⟩:=r
  unfold Dd.val Rc.val
  unfold Rc.arr Dd.cells at HWA
  unfold Rc.arr at HP3
  simp only at*
  subst hkk
  obtain⟨nb,hnb⟩:∃nb,rb.length=nb:=⟨_,rfl⟩
  obtain⟨no,hno⟩:∃no,ro.length=no:=⟨_,rfl⟩
  rw[hnb,hno] at HP3 HWA⊢
  have HNB:=AA hnb
  have HNO:=AA hno
  clear hnb hno
  have h0':no=0:=by rw[←HNO.out];exact h0
  subst h0'
  go_enter Tryz.func37,Tryz.ntmps37
  go_wp2_with fail
  (apply bodyPost_ret;(simp[results,Tryz.results37,go_sem];rfl);rfl)
  refine⟨⟨⟨rn,rtx,rd,rsf,rb,ro⟩,rAb,rcb,rAo,rco⟩, ?_,rfl,A3r Ds (fun W hW=>HR.out.below hW)⟩
  rw[HNO.out,HNB.out]
 ·have HE:Hid (rePE r.s=lsE r.s.d (reT r.s)):=by unfold Hid rePE;rw[if_neg h0]
  have HLS:=AA (fun W=>B0x r.s.tx r.s.d (reT r.s) r.s.sf W HOK.out.lf.size)
  have HPN:Hid (lsE r.s.d (reT r.s)≠0→reP r.s=r.s∧lsT r.s.tx r.s.d (reT r.s)=r.s.tx∧lsD r.s.d (reT r.s)=r.s.d):=fun hz=>⟨by unfold reP;rw[if_neg (by rw[HE.out];exact hz)],by unfold lsT;rw[if_neg hz],by unfold lsD;rw[if_neg hz]⟩
  have HPZ:Hid (lsE r.s.d (reT r.s)=0→reP r.s={r.s with tx:=reT r.s,d:=lsD r.s.d (reT r.s),back:=r.s.back++ [L r.s.tx],onward:=r.s.onward.take (r.s.onward.length-1)}∧lsT r.s.tx r.s.d (reT r.s)=reT r.s):=fun hz=>⟨by unfold reP;rw[if_pos (by rw[HE.out];exact hz)],by unfold lsT;rw[if_pos hz]⟩
  have HTT:Hid (S (r.s.onward.getD (r.s.onward.length-1) [])=reT r.s):=rfl
  rw[HE.out]
  clear HE
  obtain⟨xk,xn,xnm,xt,xA,xm,xc,xl⟩:=x
  obtain⟨⟨rn,rtx,rd,rsf,rb,ro⟩,rAb,rcb,rAo,rco⟩:=r
  unfold Dd.val Rc.val
  unfold Rc.arr Dd.cells at HWA
  unfold Rc.arr at HP3
  simp only at*
  subst hkk
  obtain⟨nb,hnb⟩:∃nb,rb.length=nb:=⟨_,rfl⟩
  obtain⟨no,hno⟩:∃no,ro.length=no:=⟨_,rfl⟩
  rw[hnb,hno] at HP3 HWA⊢
  have HNB:=AA hnb
  have HNO:=AA hno
  clear hnb hno
  have hnz:¬no=0:=by rw[←HNO.out];exact h0
  obtain⟨m,hm⟩:∃m,no=m+1:=⟨no-1,by omega⟩
  rw[HNB.out,HNO.out] at hn30
  subst hm
  clear hnz h0
  have hTT:=HTT.out
  rw[HNO.out,Cc] at hTT
  obtain⟨T,hT⟩:∃T,reT ⟨rn,rtx,rd,rsf,rb,ro⟩=T:=⟨_,rfl⟩
  rw[hT] at HLS HPN HPZ hTT⊢
  rw[HNO.out,Cc] at HPZ
  clear hT HTT
  have hrf:=HR.out.o
  have hro:=HR.out.b
  have hcc:=HR.out.cb
  have hcd:=HR.out.co
  simp only at hrf hro hcc hcd
  rw[HNO.out] at hrf
  rw[HNB.out] at hro
  rw[HNB.out] at hcc
  rw[HNO.out] at hcd
  have HRO:Hid (∀W,Below w.heap.size w W→Rd W w.heap.size 1 rAb nb (strCells rb)):=fun W hW=>hro.rd.below hW
  have HCUT:Hid (∀W,Below w.heap.size w W→RdK W K 1 rAo (ro.take m).length (strCells (ro.take m))):=fun W hW=>by
   rw[AV,HNO.out,BX (DI m)]
   exact(hrf.below hW).preS (DI m)
  have hmc:m+1≤rco:=hcd.1
  have hmx:rco≤maxLen:=hcd.2
  have HMX2:=AA hmx
  unfold maxLen at hmx
  obtain⟨ad,eA,hab,hcl⟩:=A2t (k:=m) (hrf.rd.below HBA.out) EE
  cases eA
  rw[hTT] at hcl
  clear hrf hro hcc hcd hTT
  have q1:wA.cell? ⟨w.heap.size,5,none⟩=some (.slice (some ad) (m+1) rco):=HP3.out.p.cell 5
  have hgA:w.heap.size<wA.heap.size:=HP3.out.p.lt
  go_enter Tryz.func37,Tryz.ntmps37
  go_wp2_with fail
  rw[←HWA.out]
  clear HWA
  obtain⟨F1,HF1,hcell10,hcell11⟩:=cells2 ⟨w.heap.size,5,none⟩ (.slice (some ad) (m+1) rco) (ad.add m) (.string T)
  refine EB [(0,true),(2,true),(3,true),(4,true),(5,true),(6,true),(7,true),(8,true),(1,false),(9,false),(10,true),(11,true),(12,true),(13,true),(14,false),(15,true)] HF1 ?_
  intro hne1
  simp only[A0i,AT,AP,AR]
  repeat(first|((first|refine Dt ?_|refine Du ?_);intro K hK;go_big_quiet_op;go_big_quiet_on)|((first|refine Dv ?_|refine Dw ?_);simp only[Act.put,AB,AE,AF]))
  have HP:=AA (HP3.out.below (Bl (AI _ _)))
  have hbd:Below wA.heap.size wA wA.drew:=Bl (AI _ _)
  have e0:=HP.out.p.cell 0;have e1:=HP.out.p.cell 1;have e2:=HP.out.p.cell 2;have e3:=HP.out.p.cell 3;have e4:=HP.out.p.cell 4;have e5:=HP.out.p.cell 5
  have ef0:=HP.out.p.frozen 0;have ef1:=HP.out.p.frozen 1;have ef2:=HP.out.p.frozen 2;have ef3:=HP.out.p.frozen 3;have ef4:=HP.out.p.frozen 4;have ef5:=HP.out.p.frozen 5
  have d1:wA.drew.cell? ⟨w.heap.size+1,1,none⟩=some (.int .i64 xn):=HP.out.d.cell 1
  have d3:wA.drew.cell? ⟨w.heap.size+1,3,none⟩=some (.string xt):=HP.out.d.cell 3
  have d4:wA.drew.cell? ⟨w.heap.size+1,4,none⟩=some (.slice xA xm xc):=HP.out.d.cell 4
  have z0:wA.drew.cell? ⟨w.heap.size+1+1,0,none⟩=some (.string ⟨#[]⟩):=HP.out.z.cell 0
  have z1:wA.drew.cell? ⟨w.heap.size+1+1,1,none⟩=some (.string ⟨#[]⟩):=HP.out.z.cell 1
  have z2:wA.drew.cell? ⟨w.heap.size+1+1,2,none⟩=some (.string ⟨#[]⟩):=HP.out.z.cell 2
  have z3:wA.drew.cell? ⟨w.heap.size+1+1,3,none⟩=some (.int .i64 0):=HP.out.z.cell 3
  have z4:wA.drew.cell? ⟨w.heap.size+1+1,4,none⟩=some (.slice none 0 0):=HP.out.z.cell 4
  have z5:wA.drew.cell? ⟨w.heap.size+1+1,5,none⟩=some (.slice none 0 0):=HP.out.z.cell 5
  have zf0:=HP.out.z.frozen 0;have zf1:=HP.out.z.frozen 1;have zf2:=HP.out.z.frozen 2;have zf3:=HP.out.z.frozen 3;have zf4:=HP.out.z.frozen 4;have zf5:=HP.out.z.frozen 5
  refine A0a ?_
  go_wp2_with fail
  refine ED HF1 ?_ ⟨q1,hcl⟩
  repeat(first|((first|refine Dt ?_|refine Du ?_);intro K hK;go_big_quiet_op;go_big_quiet_on)|((first|refine Dv ?_|refine Dw ?_);simp only[Act.put,AB,AE,AF]))
  refine A0a ?_
  go_wp2_with fail
  clear e0 e1 e2 e3 e4 e5 ef0 ef1 ef2 ef3 ef4 ef5 d1 d3 d4 z0 z1 z2 z3 z4 z5 zf0 zf1 zf2 zf3 zf4 zf5
  refine(HLS.out wA.drew).mono ?_
  rintro e w5 ⟨rfl,hb5⟩
  have hb5A:Below wA.heap.size wA w5:=hbd.trans (hb5.mono hbd.size)
  have HB5:=AA (HBA.out.trans (hb5A.mono HBA.out.size))
  have HP5:=AA (HP3.out.below hb5A)
  have q1':=(hb5A.cell (p:=⟨w.heap.size,5,none⟩) hgA).trans q1
  have hcl':=(hb5A.cell (p:=ad.add m) (by rw[A0z];omega)).trans hcl
  clear HP hb5 hb5A hbd HP3 HBA
  go_wp2_with fail
  refine ED HF1 ?_ ⟨q1',hcl'⟩
  repeat(first|((first|refine Dt ?_|refine Du ?_);intro K hK;go_big_quiet_op;go_big_quiet_on)|((first|refine Dv ?_|refine Dw ?_);simp only[Act.put,AB,AE,AF]))
  refine A0a ?_
  have HP:=HP5
  have e0:=HP.out.p.cell 0;have e1:=HP.out.p.cell 1;have e2:=HP.out.p.cell 2;have e3:=HP.out.p.cell 3;have e4:=HP.out.p.cell 4;have e5:=HP.out.p.cell 5
  have ef0:=HP.out.p.frozen 0;have ef1:=HP.out.p.frozen 1;have ef2:=HP.out.p.frozen 2;have ef3:=HP.out.p.frozen 3;have ef4:=HP.out.p.frozen 4;have ef5:=HP.out.p.frozen 5
  have d1:w5.cell? ⟨w.heap.size+1,1,none⟩=some (.int .i64 xn):=HP.out.d.cell 1
  have d3:w5.cell? ⟨w.heap.size+1,3,none⟩=some (.string xt):=HP.out.d.cell 3
  have d4:w5.cell? ⟨w.heap.size+1,4,none⟩=some (.slice xA xm xc):=HP.out.d.cell 4
  have z0:w5.cell? ⟨w.heap.size+1+1,0,none⟩=some (.string ⟨#[]⟩):=HP.out.z.cell 0
  have z1:w5.cell? ⟨w.heap.size+1+1,1,none⟩=some (.string ⟨#[]⟩):=HP.out.z.cell 1
  have z2:w5.cell? ⟨w.heap.size+1+1,2,none⟩=some (.string ⟨#[]⟩):=HP.out.z.cell 2
  have z3:w5.cell? ⟨w.heap.size+1+1,3,none⟩=some (.int .i64 0):=HP.out.z.cell 3
  have z4:w5.cell? ⟨w.heap.size+1+1,4,none⟩=some (.slice none 0 0):=HP.out.z.cell 4
  have z5:w5.cell? ⟨w.heap.size+1+1,5,none⟩=some (.slice none 0 0):=HP.out.z.cell 5
  have zf0:=HP.out.z.frozen 0;have zf1:=HP.out.z.frozen 1;have zf2:=HP.out.z.frozen 2;have zf3:=HP.out.z.frozen 3;have zf4:=HP.out.z.frozen 4;have zf5:=HP.out.z.frozen 5
  go_wp2_with fail
  clear e0 e1 e2 e3 e4 e5 ef0 ef1 ef2 ef3 ef4 ef5 d1 d3 d4 z0 z1 z2 z3 z4 z5 zf0 zf1 zf2 zf3 zf4 zf5
  have HP6:Hid (P3 (((w5.setCell ⟨w.heap.size,1,none⟩ (.string (lsT rtx rd T))).setCell ⟨w.heap.size,2,none⟩ (.string (lsD rd T))).setCell ⟨w.heap.size,3,none⟩ (.int .i64 (rsf:Int))) w.heap.size #[.string rn,.string (lsT rtx rd T),.string (lsD rd T),.int .i64 (rsf:Int),.slice rAb nb rcb,.slice (some ad) (m+1) rco] ⟨4,xn,xnm,xt,xA,xm,xc,xl⟩):=((HP5.out.set_ 1 _).set_ 2 _).set_ 3 _
  have HB6:Hid (Below w.heap.size w (((w5.setCell ⟨w.heap.size,1,none⟩ (.string (lsT rtx rd T))).setCell ⟨w.heap.size,2,none⟩ (.string (lsD rd T))).setCell ⟨w.heap.size,3,none⟩ (.int .i64 (rsf:Int)))):=bel3 HB5.out
  have q1'':=HP6.out.p.cell 5
  have hadg:ad.block≠w.heap.size:=EE
  have hcl'':(((w5.setCell ⟨w.heap.size,1,none⟩ (.string (lsT rtx rd T))).setCell ⟨w.heap.size,2,none⟩ (.string (lsD rd T))).setCell ⟨w.heap.size,3,none⟩ (.int .i64 (rsf:Int))).cell? (ad.add m)=some (.string T):=by
   exact C1o
  clear HP HP5 HB5 q1 q1' hcl hcl' hadg
  generalize(((w5.setCell ⟨w.heap.size,1,none⟩ (.string (lsT rtx rd T))).setCell ⟨w.heap.size,2,none⟩ (.string (lsD rd T))).setCell ⟨w.heap.size,3,none⟩ (.int .i64 (rsf:Int)))=w6 at*
  refine ED HF1 ?_ ⟨q1'',hcl''⟩
  repeat(first|((first|refine Dt ?_|refine Du ?_);intro K hK;go_big_quiet_op;go_big_quiet_on)|((first|refine Dv ?_|refine Dw ?_);simp only[Act.put,AB,AE,AF]))
  refine A0g ?_
  clear HF1 hcell10 hcell11 hne1 q1'' hcl''
  by_cases hz:lsE rd T=0
  ·obtain⟨hp1,hp2⟩:=HPZ.out hz
   rw[hp2] at HP6
   have HP1:=AA hp1
   have HZ:=AA hz
   rw[HZ.out]
   generalize hDD:lsD rd T=D' at*
   have HCL:=AA (A5z rAb nb rcb w.heap.size rb w6 (HRO.out w6 HB6.out) HB6.out.size EE)
   have HP:=HP6
   clear hz hp1 hp2 HPZ HPN HLS hDD
   have e0:=HP.out.p.cell 0;have e1:=HP.out.p.cell 1;have e2:=HP.out.p.cell 2;have e3:=HP.out.p.cell 3;have e4:=HP.out.p.cell 4;have e5:=HP.out.p.cell 5
   have ef0:=HP.out.p.frozen 0;have ef1:=HP.out.p.frozen 1;have ef2:=HP.out.p.frozen 2;have ef3:=HP.out.p.frozen 3;have ef4:=HP.out.p.frozen 4;have ef5:=HP.out.p.frozen 5
   have d1:w6.cell? ⟨w.heap.size+1,1,none⟩=some (.int .i64 xn):=HP.out.d.cell 1
   have d3:w6.cell? ⟨w.heap.size+1,3,none⟩=some (.string xt):=HP.out.d.cell 3
   have d4:w6.cell? ⟨w.heap.size+1,4,none⟩=some (.slice xA xm xc):=HP.out.d.cell 4
   have z0:w6.cell? ⟨w.heap.size+1+1,0,none⟩=some (.string ⟨#[]⟩):=HP.out.z.cell 0
   have z1:w6.cell? ⟨w.heap.size+1+1,1,none⟩=some (.string ⟨#[]⟩):=HP.out.z.cell 1
   have z2:w6.cell? ⟨w.heap.size+1+1,2,none⟩=some (.string ⟨#[]⟩):=HP.out.z.cell 2
   have z3:w6.cell? ⟨w.heap.size+1+1,3,none⟩=some (.int .i64 0):=HP.out.z.cell 3
   have z4:w6.cell? ⟨w.heap.size+1+1,4,none⟩=some (.slice none 0 0):=HP.out.z.cell 4
   have z5:w6.cell? ⟨w.heap.size+1+1,5,none⟩=some (.slice none 0 0):=HP.out.z.cell 5
   have zf0:=HP.out.z.frozen 0;have zf1:=HP.out.z.frozen 1;have zf2:=HP.out.z.frozen 2;have zf3:=HP.out.z.frozen 3;have zf4:=HP.out.z.frozen 4;have zf5:=HP.out.z.frozen 5
   go_wp2_with fail
   clear e0 e1 e2 e3 e4 e5 ef0 ef1 ef2 ef3 ef4 ef5 d1 d3 d4 z0 z1 z2 z3 z4 z5 zf0 zf1 zf2 zf3 zf4 zf5
   refine HCL.out.mono ?_
   rintro e w7 ⟨v7,rfl,hown7,hb7⟩
   have HB7:=AA (HB6.out.trans (hb7.mono HB6.out.size))
   have HP7:=AA (HP6.out.below hb7)
   have hs67:=hb7.size
   have hs6:=HB6.out.size
   have hg26:w.heap.size+1+1<w6.heap.size:=HP6.out.z.lt
   have hnew:=BL w7 (.string rtx) 9
   have hownA:=hown7.alloc (.cells #[.string rtx] 9)
   have HG6:Hid (∀k,K k→k<w6.heap.size):=fun k hk=>AO (HKK.out k hk) hs6
   have HP7A:=AA (HP7.out.below ((AI w7.heap.size w7).alloc (AD _) (.cells #[.string rtx] 9)))
   have HB67:Hid (Below w6.heap.size w6 (w7.alloc (.cells #[.string rtx] 9))):=hb7.alloc hs67 _
   have HP6K:=HP6
   have hOTL:rb.length=nb:=HNB.out
   have HOTL:=AA hOTL
   clear HP6 HCL hb7 HP hOTL
   have hsz8:w6.heap.size≤(w7.alloc (.cells #[.string rtx] 9)).heap.size:=HB67.out.size
   go_wp2_with (at_builtin;go_must (refine A0r rfl _ _ _ rfl w6.heap.size 9 i0 _ 1 16 Tryz.underlying25 hi0 hz0 hz1 hz2 rfl EE _ nb (strCells rb) rfl hownA ⟨w7.heap.size,0,none⟩ 1 1 [.string rtx] rfl rfl hnew (by simp[Value.oneCell']) EE EE (by simp at hsz8⊢;omega) ?_);intro v8 w8 hown8 hg8 hb8;have hO8:=OwnO.of_own hown8;obtain⟨A8,c8,rfl,hn8,hm8,_⟩:=OwnO.form hO8;have HO8:=AA hO8;have HB8:=AA (HB6.out.trans ((HB67.out.trans hb8).mono HB6.out.size));have HP:=AA (HP6K.out.below (HB67.out.trans hb8));clear hown8 hg8 hb8 hO8 hownA hnew;have e0:=HP.out.p.cell 0;have e1:=HP.out.p.cell 1;have e2:=HP.out.p.cell 2;have e3:=HP.out.p.cell 3;have e4:=HP.out.p.cell 4;have e5:=HP.out.p.cell 5;have ef4:=HP.out.p.frozen 4;have ef5:=HP.out.p.frozen 5;have z0:w8.cell? ⟨w.heap.size+1+1,0,none⟩=some (.string ⟨#[]⟩):=HP.out.z.cell 0;have z1:w8.cell? ⟨w.heap.size+1+1,1,none⟩=some (.string ⟨#[]⟩):=HP.out.z.cell 1;have z2:w8.cell? ⟨w.heap.size+1+1,2,none⟩=some (.string ⟨#[]⟩):=HP.out.z.cell 2;have z3:w8.cell? ⟨w.heap.size+1+1,3,none⟩=some (.int .i64 0):=HP.out.z.cell 3;have z4:w8.cell? ⟨w.heap.size+1+1,4,none⟩=some (.slice none 0 0):=HP.out.z.cell 4;have z5:w8.cell? ⟨w.heap.size+1+1,5,none⟩=some (.slice none 0 0):=HP.out.z.cell 5;have zf0:=HP.out.z.frozen 0;have zf1:=HP.out.z.frozen 1;have zf2:=HP.out.z.frozen 2;have zf3:=HP.out.z.frozen 3;have zf4:=HP.out.z.frozen 4;have zf5:=HP.out.z.frozen 5)
   (apply bodyPost_ret;(simp[results,Tryz.results37,go_sem,z0,z1,z2,z3,z4,z5];rfl);rfl)
   have l1:(ro.take m).length=m:=by rw[AV,HNO.out,BX (DI m)]
   have l2:(rb++ [L rtx]).length=nb+1:=by rw[AJ,HOTL.out];rfl
   have e:strCells (rb++ [L rtx])=strCells rb++ [.string rtx]:=by unfold strCells;rw[BM];rfl
   have hO9:OwnO w8 w6.heap.size 9 1 (.slice A8 (nb+1) c8) (rb++ [L rtx]).length (strCells (rb++ [L rtx])):=by rw[l2,e];exact HO8.out
   obtain⟨A9,c9,hv9,_,_,ho⟩:=RdK.own (own6 (a0:= .string rn) (a1:= .string T) (a2:= .string D') (a3:= .int .i64 (rsf:Int)) (a4:= .slice A8 (nb+1) c8) (a5:= .slice (some ad) m rco) (A5M (i:=5) (a:= .slice (some ad) m rco) (A5M (i:=4) (a:= .slice A8 (nb+1) c8) hO9 (show w.heap.size<w6.heap.size by omega)) (show w.heap.size<w6.heap.size by omega)) hg26) HG6.out
   rw[l2] at hv9
   cases hv9
   refine⟨⟨⟨rn,T,D',rsf,rb++ [L rtx],ro.take m⟩,A8,c8,some ad,rco⟩, ?_,HP1.out.symm, ?_⟩
   ·simp only[l1,l2]
    rw[HZ.out]
   ·refine⟨⟨ho,HCUT.out _ (bel6 (bel1 (bel1 HB8.out (AD _)) (AD _)) (le2 _)),⟨by rw[l2];exact hn8,hm8⟩,⟨by rw[l1];exact Nat.le_of_succ_le hmc,HMX2.out⟩⟩,bel6 (bel1 (bel1 HB8.out (AD _)) (AD _)) (le2 _)⟩
  ·obtain⟨hp1,hp2,hp3⟩:=HPN.out hz
   rw[hp2,hp3] at HP6
   have HP1:=AA hp1
   have g1:(lsE rd T==0)=false:=by rw[AH];exact hz
   have HP:=HP6
   clear hz hp1 hp2 hp3 HPZ HPN HLS
   have e0:=HP.out.p.cell 0;have e1:=HP.out.p.cell 1;have e2:=HP.out.p.cell 2;have e3:=HP.out.p.cell 3;have e4:=HP.out.p.cell 4;have e5:=HP.out.p.cell 5
   have ef0:=HP.out.p.frozen 0;have ef1:=HP.out.p.frozen 1;have ef2:=HP.out.p.frozen 2;have ef3:=HP.out.p.frozen 3;have ef4:=HP.out.p.frozen 4;have ef5:=HP.out.p.frozen 5
   have d1:w6.cell? ⟨w.heap.size+1,1,none⟩=some (.int .i64 xn):=HP.out.d.cell 1
   have d3:w6.cell? ⟨w.heap.size+1,3,none⟩=some (.string xt):=HP.out.d.cell 3
   have d4:w6.cell? ⟨w.heap.size+1,4,none⟩=some (.slice xA xm xc):=HP.out.d.cell 4
   have z0:w6.cell? ⟨w.heap.size+1+1,0,none⟩=some (.string ⟨#[]⟩):=HP.out.z.cell 0
   have z1:w6.cell? ⟨w.heap.size+1+1,1,none⟩=some (.string ⟨#[]⟩):=HP.out.z.cell 1
   have z2:w6.cell? ⟨w.heap.size+1+1,2,none⟩=some (.string ⟨#[]⟩):=HP.out.z.cell 2
   have z3:w6.cell? ⟨w.heap.size+1+1,3,none⟩=some (.int .i64 0):=HP.out.z.cell 3
   have z4:w6.cell? ⟨w.heap.size+1+1,4,none⟩=some (.slice none 0 0):=HP.out.z.cell 4
   have z5:w6.cell? ⟨w.heap.size+1+1,5,none⟩=some (.slice none 0 0):=HP.out.z.cell 5
   have zf0:=HP.out.z.frozen 0;have zf1:=HP.out.z.frozen 1;have zf2:=HP.out.z.frozen 2;have zf3:=HP.out.z.frozen 3;have zf4:=HP.out.z.frozen 4;have zf5:=HP.out.z.frozen 5
   go_wp2_with fail
   (apply bodyPost_ret;(simp[results,Tryz.results37,go_sem,z0,z1,z2,z3,z4,z5];rfl);rfl)
   refine⟨⟨⟨rn,rtx,rd,rsf,rb,ro⟩,rAb,rcb,some ad,rco⟩, ?_,HP1.out.symm,A3r (bel6 HB6.out (le2 _)) (fun W hW=>HR.out.below hW)⟩
   rw[HNB.out,HNO.out]
theorem B1c(tx d:ByteArray)(sf:Nat)(l:List Ed)(A:Option Addr)(m c B:Nat)(w:World)(hr:Rd w B 3 A m (A0f l))(hB:B≤w.heap.size)(hm:m≤9223372036854775807)(hz:A0n tx.size l≠0):
 Calls Tryz.prog 64 #[.agg #[.string tx,.string d,.int .i64 (sf:Int)],.slice A m c] w fun e w'=>e= .returned (.tuple #[.agg #[.string tx,.string d,.int .i64 (sf:Int)],.int .i64 (A0n tx.size l)])∧Below w.heap.size w w':=by
 have HER:=AA (fun W (hb:Below w.heap.size w W)=>A5r (tx.size:Int) l A m c B W (hr.below (hb.mono hB)) (AQ hB hb.size) hm)
 have g1:(A0n tx.size l !=0)=true:=by simpa using hz
 clear hr hz
 generalize A0n tx.size l=q at*
 go_enter Tryz.func64,Tryz.ntmps64
 go_wp2_with fail
 refine(HER.out _ Ds).mono ?_
 rintro e w1 ⟨rfl,hb1⟩
 have C0:=Blk.below' (Blk.alloc (Blk.new_ _ _ _) _) hb1
 have C1:=Blk.below' (Blk.new_ _ _ _) hb1
 simp only[Ar] at C1
 have hbA:Below w.heap.size w w1:=A0h Ds hb1
 have e0:=Blk.cell0 C0;have e1:=Blk.cell1 C0;have e2:=Blk.cell2 C0
 have d0:=Blk.cell0 C1;have d1:=Blk.cell1 C1;have d2:=Blk.cell2 C1
 have f0:=C1.frozen 0;have f1:=C1.frozen 1;have f2:=C1.frozen 2
 clear C0 C1 hb1
 exact C2H
theorem A9L(tx d:ByteArray)(sf:Nat)(l:List Ed)(A:Option Addr)(m c B:Nat)(w:World)(hr:Rd w B 3 A m (A0f l))(hB:B≤w.heap.size)(hm:m≤9223372036854775807)(ht:TabI w)(hd:d.size≤4000)(hz:A0n tx.size l=0)(hq:A0t d (recE (S (wrL l)))≠0):
 Calls Tryz.prog 64 #[.agg #[.string tx,.string d,.int .i64 (sf:Int)],.slice A m c] w fun e w'=>e= .returned (.tuple #[.agg #[.string tx,.string d,.int .i64 (sf:Int)],.int .i64 (A0t d (recE (S (wrL l))))])∧Below w.heap.size w w':=by
 have HER:=AA (fun W (hb:Below w.heap.size w W)=>A5r (tx.size:Int) l A m c B W (hr.below (hb.mono hB)) (AQ hB hb.size) hm)
 have HWR:=AA (fun W (hb:Below w.heap.size w W)=>A7S l A m c B W (hr.below (hb.mono hB)) (AQ hB hb.size) hm (A0c ht hb) (A3n hz))
 have HDN:=AA (fun W (hb:Below w.heap.size w W)=>A6v tx l A m c B W (hr.below (hb.mono hB)) (AQ hB hb.size) hz)
 have HAP:=AA (fun W (_:Below w.heap.size w W)=>A3A d (recE (S (wrL l))) sf W hd)
 rw[Hid,hz] at HER
 have HER:=AA HER
 have hs:=A3n hz
 have hwl:=A7B (A1c.1 hs).2
 have h20:=(A1c.1 hs).1
 have hTs:(S (wrL l)).size≤2400:=by rw[A0b];omega
 clear hs hwl h20 hr hz ht
 generalize S (A0C (L tx) l)=u at*
 generalize S (wrL l)=T at*
 have hDD:=A6u hq
 rw[Hid,hDD] at HAP
 have HAP:=AA HAP
 have g1:(A0t d (recE T) !=0)=true:=by simpa using hq
 clear hDD hq
 generalize A0t d (recE T)=q at*
 obtain⟨D',hD'⟩:∃D',D'=d:=⟨_,rfl⟩
 rw[Hid] at HAP
 have HAP:Hid (∀(W:World),Below w.heap.size w W→Calls Tryz.prog 63 #[.agg #[.string d,.int .i64 (sf:Int)],.string (recE T)] W fun e w'=>e= .returned (.tuple #[.agg #[.string D',.int .i64 (sf:Int)],.int .i64 q])∧Below W.heap.size W w'):=by rw[hD'];exact HAP
 clear hD'
 go_enter Tryz.func64,Tryz.ntmps64
 go_wp2_with fail
 refine(HER.out _ Ds).mono ?_
 rintro e w1 ⟨rfl,hb1⟩
 have P0:=AA (Blk.below' (Blk.alloc (Blk.new_ w 80 #[.string tx,.string d,.int .i64 (sf:Int)]) (.cells #[.string ⟨#[]⟩,.string ⟨#[]⟩,.int .i64 0] 80)) hb1)
 have P1:=AA (Blk.below' (Blk.new_ (w.alloc (.cells #[.string tx,.string d,.int .i64 (sf:Int)] 80)) 80 #[.string ⟨#[]⟩,.string ⟨#[]⟩,.int .i64 0]) hb1)
 rw[Ar] at P1
 have PB:Below w.heap.size w w1:=A0h Ds hb1
 clear hb1 HER
 have c1:=Blk.cell1 P0.out;have c2:=Blk.cell2 P0.out
 go_wp2_with fail
 obtain⟨F1,HF1,hcell10,hcell11⟩:=cells2 ⟨w.heap.size,1,none⟩ (.string d) ⟨w.heap.size,2,none⟩ (.int .i64 (sf:Int))
 refine EC (.op 0 true (.op 1 true (.op 2 true (.fork 3 9 (.op 4 true (.fork 5 9 (.op 6 true (.op 7 true (.op 8 true (.op 9 false (.op 10 false .nil))))) (.op 5 false (.op 6 true (.op 7 true (.op 8 true (.op 10 false .nil))))))) (.op 3 false (.op 4 true (.op 5 false (.op 6 true (.op 7 true (.op 8 true (.op 10 false .nil))))))))))) 11 11 [] HF1 ?_
 intro hne1
 simp only[A1L,A2I,AT,AP,AR]
 repeat(first|((first|refine Dx ?_|refine Dy ?_);intro K hK;go_big_quiet_op;go_big_quiet_on)|((first|refine Dz ?_|refine EA ?_);simp only[Act.put,AB,AE,AF]))
 clear c1 c2
 refine A2n ?_ ?_
 ·skip
  go_wp2_with fail
  refine(HWR.out _ (by first|exact PB|exact PB.drew)).mono ?_
  rintro e w2 ⟨rfl,hbn⟩
  replace P0:=AA (Blk.below' (w:=w1.drew) P0.out hbn)
  replace P1:=AA (Blk.below' (w:=w1.drew) P1.out hbn)
  skip
  replace PB:=A0h (w2:=w1.drew) (by first|exact PB|exact PB.drew) hbn
  clear hbn
  go_wp2_with fail
  refine ED HF1 ?_ ⟨Blk.cell1 P0.out,Blk.cell2 P0.out⟩
  repeat(first|((first|refine Dx ?_|refine Dy ?_);intro K hK;go_big_quiet_op;go_big_quiet_on)|((first|refine Dz ?_|refine EA ?_);simp only[Act.put,AB,AE,AF]))
  refine A2n ?_ ?_
  ·skip
   go_wp2_with fail
   refine(HAP.out _ (by first|exact PB|exact PB.drew)).mono ?_
   rintro e w3 ⟨rfl,hbn⟩
   replace P0:=AA (Blk.below' (w:=w2) P0.out hbn)
   replace P1:=AA (Blk.below' (w:=w2) P1.out hbn)
   skip
   replace PB:=A0h (w2:=w2) (by first|exact PB|exact PB.drew) hbn
   clear hbn
   go_wp2_with fail
   refine ED HF1 ?_ ⟨Blk.cell1 P0.out,Blk.cell2 P0.out⟩
   repeat(first|((first|refine Dx ?_|refine Dy ?_);intro K hK;go_big_quiet_op;go_big_quiet_on)|((first|refine Dz ?_|refine EA ?_);simp only[Act.put,AB,AE,AF]))
   refine A0s ?_
   go_wp2_with fail
   have P2:Hid (Blk ((w3.alloc (.cells #[.string ⟨#[]⟩,.int .i64 0] 78))) w3.heap.size 78 #[.string ⟨#[]⟩,.int .i64 0]):=Blk.new_ _ _ _
   have hbn:Below w3.heap.size w3 ((w3.alloc (.cells #[.string ⟨#[]⟩,.int .i64 0] 78))):=Ds
   have n0:w.heap.size<w3.heap.size:=P0.out.lt
   have n1:w.heap.size+1<w3.heap.size:=P1.out.lt
   replace P0:=AA (P0.out.below' hbn)
   replace P1:=AA (P1.out.below' hbn)
   replace PB:=A0h PB hbn
   clear hbn
   generalize(w3.alloc (.cells #[.string ⟨#[]⟩,.int .i64 0] 78))=w4 at*
   generalize w3.heap.size=b2 at*
   exact C0u
  ·skip
   go_wp2_with fail
   have P2:Hid (Blk ((w2.alloc (.cells #[.string ⟨#[]⟩,.int .i64 0] 78))) w2.heap.size 78 #[.string ⟨#[]⟩,.int .i64 0]):=Blk.new_ _ _ _
   have hbn:Below w2.heap.size w2 ((w2.alloc (.cells #[.string ⟨#[]⟩,.int .i64 0] 78))):=Ds
   have n0:w.heap.size<w2.heap.size:=P0.out.lt
   have n1:w.heap.size+1<w2.heap.size:=P1.out.lt
   replace P0:=AA (P0.out.below' hbn)
   replace P1:=AA (P1.out.below' hbn)
   replace PB:=A0h PB hbn
   clear hbn
   generalize(w2.alloc (.cells #[.string ⟨#[]⟩,.int .i64 0] 78))=w3 at*
   generalize w2.heap.size=b2 at*
   exact C2u
 ·skip
  go_wp2_with fail
  have P2:Hid (Blk (((w1.alloc (.cells #[.string ⟨#[]⟩,.int .i64 0] 78)).drew)) w1.heap.size 78 #[.string ⟨#[]⟩,.int .i64 0]):=Blk.new_ _ _ _
  have hbn:Below w1.heap.size w1 (((w1.alloc (.cells #[.string ⟨#[]⟩,.int .i64 0] 78)).drew)):=Ds
  have n0:w.heap.size<w1.heap.size:=P0.out.lt
  have n1:w.heap.size+1<w1.heap.size:=P1.out.lt
  replace P0:=AA (P0.out.below' hbn)
  replace P1:=AA (P1.out.below' hbn)
  replace PB:=A0h PB hbn
  clear hbn
  generalize((w1.alloc (.cells #[.string ⟨#[]⟩,.int .i64 0] 78)).drew)=w2 at*
  generalize w1.heap.size=b2 at*
  refine ED HF1 ?_ ⟨Blk.cell1 P0.out,Blk.cell2 P0.out⟩
  repeat(first|((first|refine Dx ?_|refine Dy ?_);intro K hK;go_big_quiet_op;go_big_quiet_on)|((first|refine Dz ?_|refine EA ?_);simp only[Act.put,AB,AE,AF]))
  refine A0s ?_
  go_wp2_with fail
  refine(HWR.out _ (by first|exact PB|exact PB.drew)).mono ?_
  rintro e w3 ⟨rfl,hbn⟩
  replace P0:=AA (Blk.below' (w:=w2) P0.out hbn)
  replace P1:=AA (Blk.below' (w:=w2) P1.out hbn)
  replace P2:=AA (Blk.below' P2.out hbn)
  replace PB:=A0h (w2:=w2) (by first|exact PB|exact PB.drew) hbn
  clear hbn
  go_wp2_with fail
  exact C2u
theorem B2v(tx d:ByteArray)(sf:Nat)(l:List Ed)(A:Option Addr)(m c B:Nat)(w:World)(hr:Rd w B 3 A m (A0f l))(hB:B≤w.heap.size)(hm:m≤9223372036854775807)(ht:TabI w)(hd:d.size≤4000)(hz:A0n tx.size l=0)(hq:A0t d (recE (S (wrL l)))=0):
 Calls Tryz.prog 64 #[.agg #[.string tx,.string d,.int .i64 (sf:Int)],.slice A m c] w fun e w'=>e= .returned (.tuple #[.agg #[.string (S (A0C (L tx) l)),.string (appD d (recE (S (wrL l)))),.int .i64 (sf:Int)],.int .i64 0])∧Below w.heap.size w w':=by
 have HER:=AA (fun W (hb:Below w.heap.size w W)=>A5r (tx.size:Int) l A m c B W (hr.below (hb.mono hB)) (AQ hB hb.size) hm)
 have HWR:=AA (fun W (hb:Below w.heap.size w W)=>A7S l A m c B W (hr.below (hb.mono hB)) (AQ hB hb.size) hm (A0c ht hb) (A3n hz))
 have HDN:=AA (fun W (hb:Below w.heap.size w W)=>A6v tx l A m c B W (hr.below (hb.mono hB)) (AQ hB hb.size) hz)
 have HAP:=AA (fun W (_:Below w.heap.size w W)=>A3A d (recE (S (wrL l))) sf W hd)
 rw[Hid,hz] at HER
 have HER:=AA HER
 have hs:=A3n hz
 have hwl:=A7B (A1c.1 hs).2
 have h20:=(A1c.1 hs).1
 have hTs:(S (wrL l)).size≤2400:=by rw[A0b];omega
 clear hs hwl h20 hr hz ht
 generalize S (A0C (L tx) l)=u at*
 generalize S (wrL l)=T at*
 rw[Hid,hq] at HAP
 have HAP:=AA HAP
 clear hq
 generalize appD d (recE T)=D' at*
 go_enter Tryz.func64,Tryz.ntmps64
 go_wp2_with fail
 refine(HER.out _ Ds).mono ?_
 rintro e w1 ⟨rfl,hb1⟩
 have P0:=AA (Blk.below' (Blk.alloc (Blk.new_ w 80 #[.string tx,.string d,.int .i64 (sf:Int)]) (.cells #[.string ⟨#[]⟩,.string ⟨#[]⟩,.int .i64 0] 80)) hb1)
 have P1:=AA (Blk.below' (Blk.new_ (w.alloc (.cells #[.string tx,.string d,.int .i64 (sf:Int)] 80)) 80 #[.string ⟨#[]⟩,.string ⟨#[]⟩,.int .i64 0]) hb1)
 rw[Ar] at P1
 have PB:Below w.heap.size w w1:=A0h Ds hb1
 clear hb1 HER
 have c1:=Blk.cell1 P0.out;have c2:=Blk.cell2 P0.out
 go_wp2_with fail
 obtain⟨F1,HF1,hcell10,hcell11⟩:=cells2 ⟨w.heap.size,1,none⟩ (.string d) ⟨w.heap.size,2,none⟩ (.int .i64 (sf:Int))
 refine EC (.op 0 true (.op 1 true (.op 2 true (.fork 3 9 (.op 4 true (.fork 5 9 (.op 6 true (.op 7 true (.op 8 true (.op 9 false (.op 10 false .nil))))) (.op 5 false (.op 6 true (.op 7 true (.op 8 true (.op 10 false .nil))))))) (.op 3 false (.op 4 true (.op 5 false (.op 6 true (.op 7 true (.op 8 true (.op 10 false .nil))))))))))) 11 11 [] HF1 ?_
 intro hne1
 simp only[A1L,A2I,AT,AP,AR]
 repeat(first|((first|refine Dx ?_|refine Dy ?_);intro K hK;go_big_quiet_op;go_big_quiet_on)|((first|refine Dz ?_|refine EA ?_);simp only[Act.put,AB,AE,AF]))
 clear c1 c2
 refine A2n ?_ ?_
 ·skip
  go_wp2_with fail
  refine(HWR.out _ (by first|exact PB|exact PB.drew)).mono ?_
  rintro e w2 ⟨rfl,hbn⟩
  replace P0:=AA (Blk.below' (w:=w1.drew) P0.out hbn)
  replace P1:=AA (Blk.below' (w:=w1.drew) P1.out hbn)
  skip
  replace PB:=A0h (w2:=w1.drew) (by first|exact PB|exact PB.drew) hbn
  clear hbn
  go_wp2_with fail
  refine ED HF1 ?_ ⟨Blk.cell1 P0.out,Blk.cell2 P0.out⟩
  repeat(first|((first|refine Dx ?_|refine Dy ?_);intro K hK;go_big_quiet_op;go_big_quiet_on)|((first|refine Dz ?_|refine EA ?_);simp only[Act.put,AB,AE,AF]))
  refine A2n ?_ ?_
  ·skip
   go_wp2_with fail
   refine(HAP.out _ (by first|exact PB|exact PB.drew)).mono ?_
   rintro e w3 ⟨rfl,hbn⟩
   replace P0:=AA (Blk.below' (w:=w2) P0.out hbn)
   replace P1:=AA (Blk.below' (w:=w2) P1.out hbn)
   skip
   replace PB:=A0h (w2:=w2) (by first|exact PB|exact PB.drew) hbn
   clear hbn
   go_wp2_with fail
   refine ED HF1 ?_ ⟨Blk.cell1 P0.out,Blk.cell2 P0.out⟩
   repeat(first|((first|refine Dx ?_|refine Dy ?_);intro K hK;go_big_quiet_op;go_big_quiet_on)|((first|refine Dz ?_|refine EA ?_);simp only[Act.put,AB,AE,AF]))
   refine A0s ?_
   go_wp2_with fail
   have P2:Hid (Blk ((w3.alloc (.cells #[.string ⟨#[]⟩,.int .i64 0] 78))) w3.heap.size 78 #[.string ⟨#[]⟩,.int .i64 0]):=Blk.new_ _ _ _
   have hbn:Below w3.heap.size w3 ((w3.alloc (.cells #[.string ⟨#[]⟩,.int .i64 0] 78))):=Ds
   have n0:w.heap.size<w3.heap.size:=P0.out.lt
   have n1:w.heap.size+1<w3.heap.size:=P1.out.lt
   replace P0:=AA (P0.out.below' hbn)
   replace P1:=AA (P1.out.below' hbn)
   replace PB:=A0h PB hbn
   clear hbn
   generalize(w3.alloc (.cells #[.string ⟨#[]⟩,.int .i64 0] 78))=w4 at*
   generalize w3.heap.size=b2 at*
   exact C0n
  ·skip
   go_wp2_with fail
   have P2:Hid (Blk ((w2.alloc (.cells #[.string ⟨#[]⟩,.int .i64 0] 78))) w2.heap.size 78 #[.string ⟨#[]⟩,.int .i64 0]):=Blk.new_ _ _ _
   have hbn:Below w2.heap.size w2 ((w2.alloc (.cells #[.string ⟨#[]⟩,.int .i64 0] 78))):=Ds
   have n0:w.heap.size<w2.heap.size:=P0.out.lt
   have n1:w.heap.size+1<w2.heap.size:=P1.out.lt
   replace P0:=AA (P0.out.below' hbn)
   replace P1:=AA (P1.out.below' hbn)
   replace PB:=A0h PB hbn
   clear hbn
   generalize(w2.alloc (.cells #[.string ⟨#[]⟩,.int .i64 0] 78))=w3 at*
   generalize w2.heap.size=b2 at*
   exact C2v
 ·skip
  go_wp2_with fail
  have P2:Hid (Blk (((w1.alloc (.cells #[.string ⟨#[]⟩,.int .i64 0] 78)).drew)) w1.heap.size 78 #[.string ⟨#[]⟩,.int .i64 0]):=Blk.new_ _ _ _
  have hbn:Below w1.heap.size w1 (((w1.alloc (.cells #[.string ⟨#[]⟩,.int .i64 0] 78)).drew)):=Ds
  have n0:w.heap.size<w1.heap.size:=P0.out.lt
  have n1:w.heap.size+1<w1.heap.size:=P1.out.lt
  replace P0:=AA (P0.out.below' hbn)
  replace P1:=AA (P1.out.below' hbn)
  replace PB:=A0h PB hbn
  clear hbn
  generalize((w1.alloc (.cells #[.string ⟨#[]⟩,.int .i64 0] 78)).drew)=w2 at*
  generalize w1.heap.size=b2 at*
  refine ED HF1 ?_ ⟨Blk.cell1 P0.out,Blk.cell2 P0.out⟩
  repeat(first|((first|refine Dx ?_|refine Dy ?_);intro K hK;go_big_quiet_op;go_big_quiet_on)|((first|refine Dz ?_|refine EA ?_);simp only[Act.put,AB,AE,AF]))
  refine A0s ?_
  go_wp2_with fail
  refine(HWR.out _ (by first|exact PB|exact PB.drew)).mono ?_
  rintro e w3 ⟨rfl,hbn⟩
  replace P0:=AA (Blk.below' (w:=w2) P0.out hbn)
  replace P1:=AA (Blk.below' (w:=w2) P1.out hbn)
  replace P2:=AA (Blk.below' P2.out hbn)
  replace PB:=A0h (w2:=w2) (by first|exact PB|exact PB.drew) hbn
  clear hbn
  go_wp2_with fail
  exact C2v
theorem A9a(tx d:ByteArray)(sf:Nat)(l:List Ed)(A:Option Addr)(m c B:Nat)(w:World)(hr:Rd w B 3 A m (A0f l))(hB:B≤w.heap.size)(hm:m≤9223372036854775807)(ht:TabI w)(hd:d.size≤4000):
 Calls Tryz.prog 64 #[.agg #[.string tx,.string d,.int .i64 (sf:Int)],.slice A m c] w fun e w'=>e= .returned (.tuple #[.agg #[.string (lfT tx d l),.string (lfD tx d l),.int .i64 (sf:Int)],.int .i64 (lfE tx d l)])∧Below w.heap.size w w':=by
 by_cases hz:A0n tx.size l=0
 ·by_cases hq:A0t d (recE (S (wrL l)))=0
  ·have e0:lfE tx d l=0:=by unfold lfE;rw[if_pos hz,hq]
   have e1:lfT tx d l=S (A0C (L tx) l):=by unfold lfT;rw[if_pos e0]
   have e2:lfD tx d l=appD d (recE (S (wrL l))):=by unfold lfD;rw[if_pos e0]
   rw[e0,e1,e2]
   exact B2v tx d sf l A m c B w hr hB hm ht hd hz hq
  ·have e0:lfE tx d l=A0t d (recE (S (wrL l))):=by unfold lfE;rw[if_pos hz]
   have e1:lfT tx d l=tx:=by unfold lfT;rw[e0,if_neg hq]
   have e2:lfD tx d l=d:=by unfold lfD;rw[e0,if_neg hq]
   rw[e0,e1,e2]
   exact A9L tx d sf l A m c B w hr hB hm ht hd hz hq
 ·have e0:lfE tx d l=A0n tx.size l:=by unfold lfE;rw[if_neg hz]
  have e1:lfT tx d l=tx:=by unfold lfT;rw[e0,if_neg hz]
  have e2:lfD tx d l=d:=by unfold lfD;rw[e0,if_neg hz]
  rw[e0,e1,e2]
  exact B1c tx d sf l A m c B w hr hB hm hz
set_option linter.unusedSimpArgs false
theorem B9d{w8:World}{K:Nat→Prop}{B g1 g2:Nat}{A9:Option Addr}{n9 c9:Nat}{xs:List Value}(h:OwnO w8 B 9 1 (.slice A9 n9 c9) n9 xs)(hK:∀k,K k→k<B)(h1:g1<B)(h2:g2<B){u4 v4 v5 a0 a1 a2 a3 a4 a5:Value}:
 RdK (((((((((w8.setCell ⟨g1,4,none⟩ u4).setCell ⟨g1,4,none⟩ v4).setCell ⟨g1,5,none⟩ v5).setCell ⟨g2,0,none⟩ a0).setCell ⟨g2,1,none⟩ a1).setCell ⟨g2,2,none⟩ a2).setCell ⟨g2,3,none⟩ a3).setCell ⟨g2,4,none⟩ a4).setCell ⟨g2,5,none⟩ a5) K 1 A9 n9 xs:=by
 obtain⟨A,c,hv,_,_,ho⟩:=RdK.own (own6 (a0:=a0) (a1:=a1) (a2:=a2) (a3:=a3) (a4:=a4) (a5:=a5) (A5M (i:=5) (a:=v5) (A5M (i:=4) (a:=v4) (A5M (i:=4) (a:=u4) h h1) h1) h1) h2) hK
 cases hv
 exact ho
theorem B2w{w8:World}{B nb N k c8:Nat}{a8:Addr}{rb:List (List UInt8)}{rtx:ByteArray}(h:OwnO w8 B 9 1 (.slice (some a8) N c8) N (strCells rb++ [.string rtx]))(hN:nb+1=N)(hnb:rb.length=nb)(hk:k≤N):
 ∃A9,(∀W,(Instr.sliceAt 25 (.slice (some a8) N c8) (some (.int .i64 (k:Int))) none none).run Tryz.prog W= .ok (.slice A9 (N-k) (c8-k)) W)∧
  OwnO w8 B 9 1 (.slice A9 ((rb++ [L rtx]).drop k).length (c8-k)) ((rb++ [L rtx]).drop k).length (strCells ((rb++ [L rtx]).drop k))∧((rb++ [L rtx]).drop k).length=N-k:=by
 have hl:((rb++ [L rtx]).drop k).length=N-k:=by
  rw[AZ,AJ,hnb,Ah,hN]
 have e:strCells (rb++ [L rtx])=strCells rb++ [.string rtx]:=by unfold strCells;rw[BM];rfl
 refine⟨_,fun W=>A5X (size:=1) Tryz.underlying25 EG (some a8) N c8 k hk W, ?_,hl⟩
 rw[hl,←B0L,e]
 have h2:=h.behind (some a8) c8 k rfl hk EH
 rw[Nat.mul_one] at h2⊢
 exact h2
theorem refPg2(r:Rc)(x:Dd)(K:Nat→Prop)(w:World)(hf:RfOk w K r x)(hkk:x.kind=2):Calls Tryz.prog 37 #[r.val,x.val,.func (.func 10) #[] #[]] w (A2S w K r x):=by
 obtain⟨i0,hi0,hz0,hz1,hz2⟩:=info_parts A2C
 have hq:=pg2 (s:=r.s) hkk
 obtain⟨hr,hK,hok,hre,hxm,htb,⟨mx,hmx⟩,hmg⟩:=hf
 have HR:=AA hr
 have HOK:=AA hok
 have HRE:Hid (∀W,Below w.heap.size w W→Rd W w.heap.size 3 x.A x.m (A0f x.l)):=fun W hW=>hre.below hW
 have HTB:Hid (∀W,Below w.heap.size w W→TabI W):=fun W hW=>A0c htb hW
 have HMX:Hid (∀W,Below w.heap.size w W→W.cell? ⟨0,0,none⟩=some (.int .i64 mx)):=fun W hb=>(hb.cell (p:=⟨0,0,none⟩) hmg).trans hmx
 have HKK:=AA hK
 have HP3:=AA (A5A w r.arr x)
 have hbA:Below w.heap.size w (((w.alloc (.cells r.arr 82)).alloc (.cells x.cells 32)).alloc (.cells A1u 82)):=Ds
 have HBA:=AA hbA
 unfold A2S
 obtain⟨wA,hwA⟩:∃wA,wA=(((w.alloc (.cells r.arr 82)).alloc (.cells x.cells 32)).alloc (.cells A1u 82)):=⟨_,rfl⟩
 rw[←hwA] at HP3 HBA
 have HWA:=AA hwA
 clear hwA
 clear hr hK hok hre htb hmx hbA
 rw[hq.1,hq.2]
 clear hq
 have hn30:r.s.back.length+r.s.onward.length≤30:=HOK.out.es.n
 by_cases hm0:x.m=0
 ·have hl0:x.l.length=0:=by have:=Rd.rec_len A2v EE (HRE.out w (AI _ _));omega
  have HE:Hid (edPE r.s x.l=5):=by unfold Hid edPE;rw[if_pos hl0]
  have HPP:Hid (edP r.s x.l=r.s):=by unfold Hid edP;rw[if_neg (by rw[HE.out];decide)]
  rw[HE.out,HPP.out]
  clear hl0
  obtain⟨xk,xn,xnm,xt,xA,xm,xc,xl⟩:=x
  obtain⟨⟨rn,rtx,rd,rsf,rb,ro⟩,rAb,rcb,rAo,rco⟩:=r
  unfold Dd.val Rc.val
  unfold Rc.arr Dd.cells at HWA
  unfold Rc.arr at HP3
  simp only at*
  subst hkk
  obtain⟨nb,hnb⟩:∃nb,rb.length=nb:=⟨_,rfl⟩
  obtain⟨no,hno⟩:∃no,ro.length=no:=⟨_,rfl⟩
  rw[hnb,hno] at HP3 HWA⊢
  have HNB:=AA hnb
  have HNO:=AA hno
  clear hnb hno
  subst hm0
  exact C1m
 ·obtain⟨xk,xn,xnm,xt,xA,xm,xc,xl⟩:=x
  obtain⟨⟨rn,rtx,rd,rsf,rb,ro⟩,rAb,rcb,rAo,rco⟩:=r
  unfold Dd.val Rc.val
  unfold Rc.arr Dd.cells at HWA
  unfold Rc.arr at HP3
  simp only at*
  subst hkk
  obtain⟨nb,hnb⟩:∃nb,rb.length=nb:=⟨_,rfl⟩
  obtain⟨no,hno⟩:∃no,ro.length=no:=⟨_,rfl⟩
  rw[hnb,hno] at HP3 HWA⊢
  have HNB:=AA hnb
  have HNO:=AA hno
  clear hnb hno
  rw[HNB.out,HNO.out] at hn30
  have g0:((xm:Int)==0)=false:=by rw[AH];omega
  have g0':(xm==0)=false:=by rw[AH];exact hm0
  have HFS:Hid (∀{s:Ps},edP ⟨rn,rtx,rd,rsf,rb,ro⟩ xl=s→s=edP ⟨rn,rtx,rd,rsf,rb,ro⟩ xl):=fun h=>h.symm
  obtain⟨EX,hEX⟩:∃EX,EX=edPE ⟨rn,rtx,rd,rsf,rb,ro⟩ xl:=⟨_,rfl⟩
  rw[←hEX]
  have HFE:=AA hEX
  clear hEX
  have hrb:=HR.out.b
  simp only at hrb
  rw[HNB.out] at hrb
  have HRBK:Hid (∀W,Below w.heap.size w W→Rd W w.heap.size 1 rAb nb (strCells rb)):=fun W hW=>hrb.rd.below hW
  have HEE:Hid (Rd wA wA.heap.size 3 xA xm (A0f xl)):=(HRE.out wA HBA.out).more HBA.out.size
  have HEM:=AA hxm
  have HBE:=HBA
  have HPQ:=HP3
  clear hrb
  go_enter Tryz.func37,Tryz.ntmps37
  go_wp2_with fail
  rw[←HWA.out]
  have HLE:=AA (A9a rtx rd rsf xl xA xm xc wA.heap.size wA (HEE.out) (AD _) HEM.out (HTB.out wA HBE.out) HOK.out.lf.size)
  have hlen:=Rd.rec_len A2v EE HEE.out
  by_cases hz:lfE rtx rd xl=0
  ·have HZ:=AA hz
   have HPP:Hid (edP ⟨rn,rtx,rd,rsf,rb,ro⟩ xl=⟨rn,lfT rtx rd xl,lfD rtx rd xl,rsf,(rb++ [L rtx]).drop (nb+1-30),[]⟩):=by
    unfold Hid edP
    rw[if_pos (by unfold edPE;rw[if_neg EE];exact hz)]
    show(⟨rn,lfT rtx rd xl,lfD rtx rd xl,rsf,(rb++ [L rtx]).drop (rb.length+1-30),[]⟩:Ps)=_
    rw[HNB.out]
   have HPE5:Hid (edPE ⟨rn,rtx,rd,rsf,rb,ro⟩ xl=0):=by unfold Hid edPE;rw[if_neg EE];exact hz
   rw[hz] at HLE
   clear hz hlen
   generalize lfT rtx rd xl=tx' at*
   generalize lfD rtx rd xl=d' at*
   refine HLE.out.mono ?_
   rintro e w5 ⟨rfl,hb5⟩
   have HB5:=AA (HBE.out.trans (hb5.mono HBE.out.size))
   have HP5:=AA (HPQ.out.below hb5)
   have HB6:Hid (Below w.heap.size w (((w5.setCell ⟨w.heap.size,1,none⟩ (.string tx')).setCell ⟨w.heap.size,2,none⟩ (.string d')).setCell ⟨w.heap.size,3,none⟩ (.int .i64 (rsf:Int)))):=bel3 HB5.out
   have HP6:Hid (P3 (((w5.setCell ⟨w.heap.size,1,none⟩ (.string tx')).setCell ⟨w.heap.size,2,none⟩ (.string d')).setCell ⟨w.heap.size,3,none⟩ (.int .i64 (rsf:Int))) w.heap.size #[.string rn,.string tx',.string d',.int .i64 (rsf:Int),.slice rAb nb rcb,.slice rAo no rco] ⟨2,xn,xnm,xt,xA,xm,xc,xl⟩):=((HP5.out.set_ 1 _).set_ 2 _).set_ 3 _
   exact B9N
  ·have HN2:Hid (edPE ⟨rn,rtx,rd,rsf,rb,ro⟩ xl=lfE rtx rd xl∧edP ⟨rn,rtx,rd,rsf,rb,ro⟩ xl=⟨rn,rtx,rd,rsf,rb,ro⟩):=by
    have h1:edPE ⟨rn,rtx,rd,rsf,rb,ro⟩ xl=lfE rtx rd xl:=by unfold edPE;rw[if_neg EE]
    exact⟨h1,by unfold edP;rw[if_neg (by rw[h1];exact hz)]⟩
   have hlt:lfT rtx rd xl=rtx:=by unfold lfT;rw[if_neg hz]
   have hld:lfD rtx rd xl=rd:=by unfold lfD;rw[if_neg hz]
   rw[hlt,hld] at HLE
   have g1:(lfE rtx rd xl==0)=false:=by rw[AH];exact hz
   exact B9P
end Go.Proofs.YtplgghjdidmcfaaGreatDoor
