/- Written anew, smaller, by a program of our own out of our texts. No condition of our own. -/
import Derived.Test.YtplgghjdidmcfaaGreatDoorQ32
set_option maxRecDepth 100000
set_option maxHeartbeats 16000000
set_option linter.all false
namespace Go.Proofs.YtplgghjdidmcfaaGreatDoor
open Go.RowKit
theorem C2Z{P:Prop}(h:P:=by
 refine ED HF1 ?_ (HQ.out w5 HB25.out)
 repeat(first|((first|refine Dx ?_|refine Dy ?_);intro K hK;go_big_quiet_op;go_big_quiet_on)|((first|refine Dz ?_|refine EA ?_);simp only[Act.put,AB,AE,AF]))
 refine A2r ?_
 refine A0Y ?_
 go_wp2_with fail
 refine A1n ?_
 refine A1z ?_
 clear HF1
 have HB5:Hid (Below w.heap.size w w5):=HB2.out.trans (HB25.out.mono HB2.out.size)
 have HP:=HP5
 have hg5:w.heap.size+1+1<w5.heap.size:=HP5.out.z.lt
 have p0:w5.cell? ⟨w.heap.size,0,none⟩=some (.slice (some ad) N c):=HP.out.p.cell 0
 have d0:w5.cell? ⟨w.heap.size+1,0,none⟩=some (.int .i64 xk):=HP.out.d.cell 0
 have d1:w5.cell? ⟨w.heap.size+1,1,none⟩=some (.int .i64 xn):=HP.out.d.cell 1
 have d2:w5.cell? ⟨w.heap.size+1,2,none⟩=some (.string xnm):=HP.out.d.cell 2
 have d3:w5.cell? ⟨w.heap.size+1,3,none⟩=some (.string xt):=HP.out.d.cell 3
 have d4:w5.cell? ⟨w.heap.size+1,4,none⟩=some (.slice xA xm xc):=HP.out.d.cell 4
 have z0:w5.cell? ⟨w.heap.size+1+1,0,none⟩=some (.slice none 0 0):=HP.out.z.cell 0
 have zf0:=HP.out.z.frozen 0
 by_cases hE:EX=0
 ·subst hE
  have hrd5:=(HRR.out w5 HB5.out).row.rd
  rw[HN.out] at hrd5
  have HCL:=AA (A8k (some ad) N c w5.heap.size (A1b rs) w5 hrd5 (AD _) (A8N rs) EE)
  clear hrd5
  go_wp2_with fail
  refine HCL.out.mono ?_
  rintro e w6 ⟨v6,rfl,hown6,hb6⟩
  have hO6:=OwnO.of_own hown6
  obtain⟨A6,c6,rfl,_,_,hrd6⟩:=OwnO.form hO6
  obtain⟨a6,hA6,_,e0,e1,e2,e3,e4,e5⟩:=A6j hrd6 hil HN.out
  subst hA6
  have f0:w6.frozen? (a6.add (i*6))=false:=(A0l hO6 (j:=i*6) EE (.bool true)).2
  have f1:w6.frozen? ⟨(a6.add (i*6)).block,(a6.add (i*6)).off+1,none⟩=false:=by rw[←A4E a6 (i*6) 1 EF];exact(A0l hO6 (j:=i*6+1) EE (.bool true)).2
  have f2:w6.frozen? ⟨(a6.add (i*6)).block,(a6.add (i*6)).off+2,none⟩=false:=by rw[←A4E a6 (i*6) 2 EF];exact(A0l hO6 (j:=i*6+2) EE (.bool true)).2
  have f3:w6.frozen? ⟨(a6.add (i*6)).block,(a6.add (i*6)).off+3,none⟩=false:=by rw[←A4E a6 (i*6) 3 EF];exact(A0l hO6 (j:=i*6+3) EE (.bool true)).2
  have f4:w6.frozen? ⟨(a6.add (i*6)).block,(a6.add (i*6)).off+4,none⟩=false:=by rw[←A4E a6 (i*6) 4 EF];exact(A0l hO6 (j:=i*6+4) EE (.bool true)).2
  have f5:w6.frozen? ⟨(a6.add (i*6)).block,(a6.add (i*6)).off+5,none⟩=false:=by rw[←A4E a6 (i*6) 5 EF];exact(A0l hO6 (j:=i*6+5) EE (.bool true)).2
  have hP6:=P5.out.below' hb6
  have y0:=hP6.cell 0;have y1:=hP6.cell 1;have y2:=hP6.cell 2;have y3:=hP6.cell 3;have y4:=hP6.cell 4;have y5:=hP6.cell 5
  obtain⟨g6,O6,hpa,hg6⟩:=B9g hO6 (i*6)
  have hab6:w5.heap.size≤g6:=by rw[hg6];exact(hO6.lt a6.block rfl).1
  clear hg6
  have hO7:=B6U ⟨⟨an,atx,adt,asf,ab,ao⟩,aAb,acb,aAo,aco⟩ hO6 hil HN.out
  simp only[hpa] at hO7 e0 e1 e2 e3 e4 e5 f0 f1 f2 f3 f4 f5
  rw[HNAB.out,HNAO.out] at hO7
  have hP7:H3 ((((((w6.setCell ⟨g6,O6,none⟩ (.string an)).setCell ⟨g6,O6+1,none⟩ (.string atx)).setCell ⟨g6,O6+2,none⟩ (.string adt)).setCell ⟨g6,O6+3,none⟩ (.int .i64 (asf:Int))).setCell ⟨g6,O6+4,none⟩ (.slice aAb nab acb)).setCell ⟨g6,O6+5,none⟩ (.slice aAo nao aco)) w.heap.size (.slice (some ad) N c) ⟨xk,xn,xnm,xt,xA,xm,xc,xl⟩ (.slice none 0 0):=(HP5.out.below hb6).six (p:=⟨g6,O6,none⟩) (show w.heap.size+1+1<g6 by omega)
  have hB57:Below w5.heap.size w5 ((((((w6.setCell ⟨g6,O6,none⟩ (.string an)).setCell ⟨g6,O6+1,none⟩ (.string atx)).setCell ⟨g6,O6+2,none⟩ (.string adt)).setCell ⟨g6,O6+3,none⟩ (.int .i64 (asf:Int))).setCell ⟨g6,O6+4,none⟩ (.slice aAb nab acb)).setCell ⟨g6,O6+5,none⟩ (.slice aAo nao aco)):=B9f (p:=⟨g6,O6,none⟩) hb6 hab6
  have hB7:Below w.heap.size w ((((((w6.setCell ⟨g6,O6,none⟩ (.string an)).setCell ⟨g6,O6+1,none⟩ (.string atx)).setCell ⟨g6,O6+2,none⟩ (.string adt)).setCell ⟨g6,O6+3,none⟩ (.int .i64 (asf:Int))).setCell ⟨g6,O6+4,none⟩ (.slice aAb nab acb)).setCell ⟨g6,O6+5,none⟩ (.slice aAo nao aco)):=HB5.out.trans (hB57.mono HB5.out.size)
  have hA7:=HAT5.out.below hB57
  obtain⟨w7,hW7⟩:∃w7,((((((w6.setCell ⟨g6,O6,none⟩ (.string an)).setCell ⟨g6,O6+1,none⟩ (.string atx)).setCell ⟨g6,O6+2,none⟩ (.string adt)).setCell ⟨g6,O6+3,none⟩ (.int .i64 (asf:Int))).setCell ⟨g6,O6+4,none⟩ (.slice aAb nab acb)).setCell ⟨g6,O6+5,none⟩ (.slice aAo nao aco))=w7:=⟨_,rfl⟩
  rw[hW7] at hO7 hP7 hB7 hA7
  have HO7:=AA hO7
  have HB7:=AA hB7
  have HA7:=AA hA7
  have z7:w7.cell? ⟨w.heap.size+1+1,0,none⟩=some (.slice none 0 0):=hP7.z.cell 0
  have zf7:=hP7.z.frozen 0
  clear hO7 hP7 hB7 hA7 hB57 hO6 hown6 hrd6 hP6 HCL HP5 P5 HP hb6
  clear p0 d0 d1 d2 d3 d4 z0 zf0
  go_wp2_with (first|rw[hpa]|rw[hW7])
  (apply bodyPost_ret;(simp[results,Tryz.results9,go_sem,z7];rfl);rfl)
  refine⟨some a6,c6,rs.set i ⟨⟨an,atx,adt,asf,ab,ao⟩,aAb,acb,aAo,aco⟩, ?_, ?_,B2z HO7.out (by rw[Bj];exact HN.out) (fun k hk=>AO (HKK.out k hk) HB5.out.size) hg5 (fun r hr=> ?_),bel1 HB7.out (le2 _)⟩
  ·rw[Bj,HN.out]
  ·rw[List.map_set]
   exact congrArg _ HS.out
  ·rcases Ci hr with hr|hr
   ·exact(HRR.out _ (bel1 HB7.out (le2 _))).pg r hr
   ·rw[hr];exact setK HA7.out (.inr (.inl rfl)) fun k hk=> .inl hk
 ·have g6:(EX==0)=false:=by rw[AH];exact hE
  go_wp2_with fail
  (apply bodyPost_ret;(simp[results,Tryz.results9,go_sem,z0];rfl);rfl)
  refine⟨some ad,c,rs, ?_, ?_,A7o (bel1 HB5.out (le2 _)) HRR.out⟩
  ·rw[HN.out]
  ·rw[HBAD.out hE];exact HSET.out.symm
 ):P:=h
theorem C0x{P:Prop}(h:P:=by
 go_enter Tryz.func9,Tryz.ntmps9
 go_wp2_with fail
 rw[←HWA.out]
 refine(HNM.out wA).mono ?_
 rintro e w1 ⟨rfl,hb1⟩
 have HB1:=AA (HBA.out.trans (hb1.mono HBA.out.size))
 have HP:=AA (HH3.out.below hb1)
 clear hb1
 have p0:w1.cell? ⟨w.heap.size,0,none⟩=some (.slice A N c):=HP.out.p.cell 0
 have d0:w1.cell? ⟨w.heap.size+1,0,none⟩=some (.int .i64 1):=HP.out.d.cell 0
 have d1:w1.cell? ⟨w.heap.size+1,1,none⟩=some (.int .i64 xn):=HP.out.d.cell 1
 have d2:w1.cell? ⟨w.heap.size+1,2,none⟩=some (.string xnm):=HP.out.d.cell 2
 have d3:w1.cell? ⟨w.heap.size+1,3,none⟩=some (.string xt):=HP.out.d.cell 3
 have d4:w1.cell? ⟨w.heap.size+1,4,none⟩=some (.slice xA xm xc):=HP.out.d.cell 4
 have z0:w1.cell? ⟨w.heap.size+1+1,0,none⟩=some (.slice none 0 0):=HP.out.z.cell 0
 have zf0:=HP.out.z.frozen 0
 have hg1:w.heap.size+1<w1.heap.size:=HP.out.d.lt
 go_wp2_with fail
 refine(HID.out w1 _ HB1.out hg1 d2).mono ?_
 rintro e w2 ⟨rfl,hb2⟩
 have HB2:=AA (HB1.out.trans (hb2.mono HB1.out.size))
 have HP2:=AA (HP.out.below hb2)
 clear p0 d0 d1 d2 d3 d4 z0 zf0
 clear HP hb2 HID HNM hg1
 have HP:=HP2
 have p0:w2.cell? ⟨w.heap.size,0,none⟩=some (.slice A N c):=HP.out.p.cell 0
 have d0:w2.cell? ⟨w.heap.size+1,0,none⟩=some (.int .i64 1):=HP.out.d.cell 0
 exact C0k
 ):P:=h
theorem B6T(A:Option Addr)(c:Nat)(rs:List Rc)(x:Dd)(K:Nat→Prop)(w:World)(hf:RoOk w K A c rs x)(hkk:x.kind=1)(hn:A0K x.name=true):Calls Tryz.prog 9 #[.agg #[.slice A rs.length c],x.val,.func (.func 10) #[] #[]] w (A1v w K rs x):=by
 obtain⟨i0,hi0,hz0,hz1,hz2⟩:=info_parts A7F
 obtain⟨hq1,hq2,hq3⟩:=B6v (P:=rs.map Rc.s) hkk hn
 rw[AW] at hq1 hq3
 obtain⟨z,hz⟩:∃z,idxZ x.name (rs.map Rc.s)=z:=⟨_,rfl⟩
 rw[hz] at hq1 hq3
 by_cases hk0:0≤z
 ·have hv:bgE z rs.length x.text=10:=by unfold bgE;rw[if_pos hk0]
  rw[hv] at hq1 hq3
  rw[if_neg EF] at hq3
  clear hv
  obtain⟨hr,hK,hok,hnm,htx,hre,hxm,htb,⟨mx,hmx⟩,hmg⟩:=hf
  have hn6:rs.length≤6:=by have:=hok.n;rwa[AW] at this
  have HOKP:=AA hok
  have HRR:Hid (∀W,Below w.heap.size w W→RhAt W K A c rs):=fun W hW=>hr.below hW
  have HKK:=AA hK
  have HRE:Hid (∀W,Below w.heap.size w W→Rd W w.heap.size 3 x.A x.m (A0f x.l)):=fun W hW=>hre.below hW
  have HTB:Hid (∀W,Below w.heap.size w W→TabI W):=fun W hW=>A0c htb hW
  have HMX:Hid (∀W,Below w.heap.size w W→W.cell? ⟨0,0,none⟩=some (.int .i64 mx)):=fun W hb=>(hb.cell (p:=⟨0,0,none⟩) hmg).trans hmx
  have HNM:=AA (fun W=>A1C x.name W hnm)
  have HID:=AA (fun W g (hW:Below w.heap.size w W) (hg:g<W.heap.size) (hc:W.cell? ⟨g,2,none⟩=some (.string x.name))=>A2p rs x.name A rs.length c w.heap.size g W (hr.row.rd.below hW) hW.size EE rfl hg hc)
  have HTX:=AA htx
  have HXM:=AA hxm
  have HH3:=AA (A3M w (.slice A rs.length c) x)
  have hbA:Below w.heap.size w (((w.alloc (.cells #[.slice A rs.length c] 29)).alloc (.cells x.cells 32)).alloc (.cells #[.slice none 0 0] 29)):=Ds
  have HBA:=AA hbA
  unfold A1v
  rw[hq1,hq2,hq3]
  obtain⟨wA,hwA⟩:∃wA,wA=(((w.alloc (.cells #[.slice A rs.length c] 29)).alloc (.cells x.cells 32)).alloc (.cells #[.slice none 0 0] 29)):=⟨_,rfl⟩
  rw[←hwA] at HH3 HBA
  have HWA:=AA hwA
  clear hwA hr hK hok hnm htx hre hxm htb hmx hbA hq1 hq2 hq3
  rw[hn] at HNM
  rw[hz] at HID
  clear hz
  obtain⟨xk,xn,xnm,xt,xA,xm,xc,xl⟩:=x
  unfold Dd.val
  unfold Dd.cells at HWA
  simp only at*
  obtain⟨N,hN⟩:∃N,rs.length=N:=⟨_,rfl⟩
  rw[hN] at HH3 HWA HID hn6⊢
  have HN:=AA hN
  clear hN
  subst hkk
  have g3:decide (0≤z)=true:=AG hk0
  exact C0x
 by_cases h6:6≤rs.length
 ·have hv:bgE z rs.length x.text=11:=by unfold bgE;rw[if_neg hk0,if_pos h6]
  rw[hv] at hq1 hq3
  rw[if_neg EF] at hq3
  clear hv
  obtain⟨hr,hK,hok,hnm,htx,hre,hxm,htb,⟨mx,hmx⟩,hmg⟩:=hf
  have hn6:rs.length≤6:=by have:=hok.n;rwa[AW] at this
  have HOKP:=AA hok
  have HRR:Hid (∀W,Below w.heap.size w W→RhAt W K A c rs):=fun W hW=>hr.below hW
  have HKK:=AA hK
  have HRE:Hid (∀W,Below w.heap.size w W→Rd W w.heap.size 3 x.A x.m (A0f x.l)):=fun W hW=>hre.below hW
  have HTB:Hid (∀W,Below w.heap.size w W→TabI W):=fun W hW=>A0c htb hW
  have HMX:Hid (∀W,Below w.heap.size w W→W.cell? ⟨0,0,none⟩=some (.int .i64 mx)):=fun W hb=>(hb.cell (p:=⟨0,0,none⟩) hmg).trans hmx
  have HNM:=AA (fun W=>A1C x.name W hnm)
  have HID:=AA (fun W g (hW:Below w.heap.size w W) (hg:g<W.heap.size) (hc:W.cell? ⟨g,2,none⟩=some (.string x.name))=>A2p rs x.name A rs.length c w.heap.size g W (hr.row.rd.below hW) hW.size EE rfl hg hc)
  have HTX:=AA htx
  have HXM:=AA hxm
  have HH3:=AA (A3M w (.slice A rs.length c) x)
  have hbA:Below w.heap.size w (((w.alloc (.cells #[.slice A rs.length c] 29)).alloc (.cells x.cells 32)).alloc (.cells #[.slice none 0 0] 29)):=Ds
  have HBA:=AA hbA
  unfold A1v
  rw[hq1,hq2,hq3]
  obtain⟨wA,hwA⟩:∃wA,wA=(((w.alloc (.cells #[.slice A rs.length c] 29)).alloc (.cells x.cells 32)).alloc (.cells #[.slice none 0 0] 29)):=⟨_,rfl⟩
  rw[←hwA] at HH3 HBA
  have HWA:=AA hwA
  clear hwA hr hK hok hnm htx hre hxm htb hmx hbA hq1 hq2 hq3
  rw[hn] at HNM
  rw[hz] at HID
  clear hz
  obtain⟨xk,xn,xnm,xt,xA,xm,xc,xl⟩:=x
  unfold Dd.val
  unfold Dd.cells at HWA
  simp only at*
  obtain⟨N,hN⟩:∃N,rs.length=N:=⟨_,rfl⟩
  rw[hN] at HH3 HWA HID hn6⊢
  have HN:=AA hN
  clear hN
  subst hkk
  have g3:decide (0≤z)=false:=AC hk0
  have g4:decide ((6:Int)≤(N:Int))=true:=AG (by have:=HN.out;omega)
  have g4':decide (6≤N)=true:=AG (by have:=HN.out;omega)
  exact C0x
 by_cases ht:200<x.text.size
 ·have hv:bgE z rs.length x.text=2:=by unfold bgE;rw[if_neg hk0,if_neg h6,if_pos ht]
  rw[hv] at hq1 hq3
  rw[if_neg EF] at hq3
  clear hv
  obtain⟨hr,hK,hok,hnm,htx,hre,hxm,htb,⟨mx,hmx⟩,hmg⟩:=hf
  have hn6:rs.length≤6:=by have:=hok.n;rwa[AW] at this
  have HOKP:=AA hok
  have HRR:Hid (∀W,Below w.heap.size w W→RhAt W K A c rs):=fun W hW=>hr.below hW
  have HKK:=AA hK
  have HRE:Hid (∀W,Below w.heap.size w W→Rd W w.heap.size 3 x.A x.m (A0f x.l)):=fun W hW=>hre.below hW
  have HTB:Hid (∀W,Below w.heap.size w W→TabI W):=fun W hW=>A0c htb hW
  have HMX:Hid (∀W,Below w.heap.size w W→W.cell? ⟨0,0,none⟩=some (.int .i64 mx)):=fun W hb=>(hb.cell (p:=⟨0,0,none⟩) hmg).trans hmx
  have HNM:=AA (fun W=>A1C x.name W hnm)
  have HID:=AA (fun W g (hW:Below w.heap.size w W) (hg:g<W.heap.size) (hc:W.cell? ⟨g,2,none⟩=some (.string x.name))=>A2p rs x.name A rs.length c w.heap.size g W (hr.row.rd.below hW) hW.size EE rfl hg hc)
  have HTX:=AA htx
  have HXM:=AA hxm
  have HH3:=AA (A3M w (.slice A rs.length c) x)
  have hbA:Below w.heap.size w (((w.alloc (.cells #[.slice A rs.length c] 29)).alloc (.cells x.cells 32)).alloc (.cells #[.slice none 0 0] 29)):=Ds
  have HBA:=AA hbA
  unfold A1v
  rw[hq1,hq2,hq3]
  obtain⟨wA,hwA⟩:∃wA,wA=(((w.alloc (.cells #[.slice A rs.length c] 29)).alloc (.cells x.cells 32)).alloc (.cells #[.slice none 0 0] 29)):=⟨_,rfl⟩
  rw[←hwA] at HH3 HBA
  have HWA:=AA hwA
  clear hwA hr hK hok hnm htx hre hxm htb hmx hbA hq1 hq2 hq3
  rw[hn] at HNM
  rw[hz] at HID
  clear hz
  obtain⟨xk,xn,xnm,xt,xA,xm,xc,xl⟩:=x
  unfold Dd.val
  unfold Dd.cells at HWA
  simp only at*
  obtain⟨N,hN⟩:∃N,rs.length=N:=⟨_,rfl⟩
  rw[hN] at HH3 HWA HID hn6⊢
  have HN:=AA hN
  clear hN
  subst hkk
  have g3:decide (0≤z)=false:=AC hk0
  have g4:decide ((6:Int)≤(N:Int))=false:=AC (by have:=HN.out;omega)
  have g4':decide (6≤N)=false:=AC (by have:=HN.out;omega)
  have g5:decide ((200:Int)<(xt.size:Int))=true:=AG EE
  have g5':decide (200<xt.size)=true:=AG ht
  exact C0x
 have hv:bgE z rs.length x.text=0:=by unfold bgE;rw[if_neg hk0,if_neg h6,if_neg ht]
 rw[hv] at hq1 hq3
 rw[if_pos rfl] at hq3
 clear hv
 obtain⟨hr,hK,hok,hnm,htx,hre,hxm,htb,⟨mx,hmx⟩,hmg⟩:=hf
 have hn6:rs.length≤6:=by have:=hok.n;rwa[AW] at this
 have HOKP:=AA hok
 have HRR:Hid (∀W,Below w.heap.size w W→RhAt W K A c rs):=fun W hW=>hr.below hW
 have HKK:=AA hK
 have HRE:Hid (∀W,Below w.heap.size w W→Rd W w.heap.size 3 x.A x.m (A0f x.l)):=fun W hW=>hre.below hW
 have HTB:Hid (∀W,Below w.heap.size w W→TabI W):=fun W hW=>A0c htb hW
 have HMX:Hid (∀W,Below w.heap.size w W→W.cell? ⟨0,0,none⟩=some (.int .i64 mx)):=fun W hb=>(hb.cell (p:=⟨0,0,none⟩) hmg).trans hmx
 have HNM:=AA (fun W=>A1C x.name W hnm)
 have HID:=AA (fun W g (hW:Below w.heap.size w W) (hg:g<W.heap.size) (hc:W.cell? ⟨g,2,none⟩=some (.string x.name))=>A2p rs x.name A rs.length c w.heap.size g W (hr.row.rd.below hW) hW.size EE rfl hg hc)
 have HTX:=AA htx
 have HXM:=AA hxm
 have HH3:=AA (A3M w (.slice A rs.length c) x)
 have hbA:Below w.heap.size w (((w.alloc (.cells #[.slice A rs.length c] 29)).alloc (.cells x.cells 32)).alloc (.cells #[.slice none 0 0] 29)):=Ds
 have HBA:=AA hbA
 unfold A1v
 rw[hq1,hq2,hq3]
 obtain⟨wA,hwA⟩:∃wA,wA=(((w.alloc (.cells #[.slice A rs.length c] 29)).alloc (.cells x.cells 32)).alloc (.cells #[.slice none 0 0] 29)):=⟨_,rfl⟩
 rw[←hwA] at HH3 HBA
 have HWA:=AA hwA
 clear hwA hr hK hok hnm htx hre hxm htb hmx hbA hq1 hq2 hq3
 rw[hn] at HNM
 rw[hz] at HID
 clear hz
 obtain⟨xk,xn,xnm,xt,xA,xm,xc,xl⟩:=x
 unfold Dd.val
 unfold Dd.cells at HWA
 simp only at*
 obtain⟨N,hN⟩:∃N,rs.length=N:=⟨_,rfl⟩
 rw[hN] at HH3 HWA HID hn6⊢
 have HN:=AA hN
 clear hN
 subst hkk
 have g3:decide (0≤z)=false:=AC hk0
 have hN5:N≤5:=by have:=HN.out;omega
 have g4:decide ((6:Int)≤(N:Int))=false:=AC EE
 have g4':decide (6≤N)=false:=AC EE
 have g5:decide ((200:Int)<(xt.size:Int))=false:=AC EE
 have g5':decide (200<xt.size)=false:=AC ht
 have HLF:=AA (fun W=>B2o xt W EE)
 go_enter Tryz.func9,Tryz.ntmps9
 go_wp2_with fail
 rw[←HWA.out]
 refine(HNM.out wA).mono ?_
 rintro e w1 ⟨rfl,hb1⟩
 have HB1:=AA (HBA.out.trans (hb1.mono HBA.out.size))
 have HP:=AA (HH3.out.below hb1)
 clear hb1
 have p0:w1.cell? ⟨w.heap.size,0,none⟩=some (.slice A N c):=HP.out.p.cell 0
 have d0:w1.cell? ⟨w.heap.size+1,0,none⟩=some (.int .i64 1):=HP.out.d.cell 0
 have d1:w1.cell? ⟨w.heap.size+1,1,none⟩=some (.int .i64 xn):=HP.out.d.cell 1
 have d2:w1.cell? ⟨w.heap.size+1,2,none⟩=some (.string xnm):=HP.out.d.cell 2
 have d3:w1.cell? ⟨w.heap.size+1,3,none⟩=some (.string xt):=HP.out.d.cell 3
 have d4:w1.cell? ⟨w.heap.size+1,4,none⟩=some (.slice xA xm xc):=HP.out.d.cell 4
 have z0:w1.cell? ⟨w.heap.size+1+1,0,none⟩=some (.slice none 0 0):=HP.out.z.cell 0
 have zf0:=HP.out.z.frozen 0
 have hg1:w.heap.size+1<w1.heap.size:=HP.out.d.lt
 go_wp2_with fail
 refine(HID.out w1 _ HB1.out hg1 d2).mono ?_
 rintro e w2 ⟨rfl,hb2⟩
 have HB2:=AA (HB1.out.trans (hb2.mono HB1.out.size))
 have HP2:=AA (HP.out.below hb2)
 clear p0 d0 d1 d2 d3 d4 z0 zf0
 clear HP hb2 HID HNM hg1
 have HP:=HP2
 have p0:w2.cell? ⟨w.heap.size,0,none⟩=some (.slice A N c):=HP.out.p.cell 0
 have d0:w2.cell? ⟨w.heap.size+1,0,none⟩=some (.int .i64 1):=HP.out.d.cell 0
 have d1:w2.cell? ⟨w.heap.size+1,1,none⟩=some (.int .i64 xn):=HP.out.d.cell 1
 have d2:w2.cell? ⟨w.heap.size+1,2,none⟩=some (.string xnm):=HP.out.d.cell 2
 have d3:w2.cell? ⟨w.heap.size+1,3,none⟩=some (.string xt):=HP.out.d.cell 3
 have d4:w2.cell? ⟨w.heap.size+1,4,none⟩=some (.slice xA xm xc):=HP.out.d.cell 4
 have z0:w2.cell? ⟨w.heap.size+1+1,0,none⟩=some (.slice none 0 0):=HP.out.z.cell 0
 have zf0:=HP.out.z.frozen 0
 have hrd:=(HRR.out w2.drew HB2.out.drew).row.rd
 rw[HN.out] at hrd
 have HCL:=AA (A8k A N c w2.drew.heap.size (A1b rs) w2.drew hrd (AD _) (A8N rs) EE)
 clear hrd h6 ht hk0
 go_wp2_with fail
 obtain⟨F1,HF1,hcell10,hcell11,hcell12⟩:=cells3 ⟨w.heap.size,0,none⟩ (.slice A N c) ⟨w.heap.size+1,2,none⟩ (.string xnm) ⟨w.heap.size+1,3,none⟩ (.string xt)
 refine EB [(0,true),(1,true),(3,true),(4,true),(5,true),(6,true),(2,false),(7,false),(8,true),(9,false),(10,false),(11,true),(12,false),(13,true),(14,true)] HF1 ?_
 intro hne1
 simp only[A0i,AT,AP,AR]
 repeat(first|((first|refine Dt ?_|refine Du ?_);intro K hK;go_big_quiet_op;go_big_quiet_on)|((first|refine Dv ?_|refine Dw ?_);simp only[Act.put,AB,AE,AF]))
 have HBD:Hid (Below w.heap.size w w2.drew):=HB2.out.drew
 have HPD:Hid (H3 w2.drew w.heap.size (.slice A N c) ⟨1,xn,xnm,xt,xA,xm,xc,xl⟩ (.slice none 0 0)):=HP2.out.below (Bl (AI _ _))
 have hg2:w.heap.size+1+1<w2.drew.heap.size:=HPD.out.z.lt
 have hs2:w.heap.size≤w2.drew.heap.size:=HBD.out.size
 clear p0 d0 d1 d2 d3 d4 z0 zf0
 clear HP HP2 HB2
 refine A0a ?_
 have HP:=HPD
 have p0:w2.drew.cell? ⟨w.heap.size,0,none⟩=some (.slice A N c):=HP.out.p.cell 0
 have d0:w2.drew.cell? ⟨w.heap.size+1,0,none⟩=some (.int .i64 1):=HP.out.d.cell 0
 have d1:w2.drew.cell? ⟨w.heap.size+1,1,none⟩=some (.int .i64 xn):=HP.out.d.cell 1
 have d2:w2.drew.cell? ⟨w.heap.size+1,2,none⟩=some (.string xnm):=HP.out.d.cell 2
 have d3:w2.drew.cell? ⟨w.heap.size+1,3,none⟩=some (.string xt):=HP.out.d.cell 3
 have d4:w2.drew.cell? ⟨w.heap.size+1,4,none⟩=some (.slice xA xm xc):=HP.out.d.cell 4
 have z0:w2.drew.cell? ⟨w.heap.size+1+1,0,none⟩=some (.slice none 0 0):=HP.out.z.cell 0
 have zf0:=HP.out.z.frozen 0
 go_wp2_with fail
 refine HCL.out.mono ?_
 rintro e w3 ⟨v3,rfl,hown3,hb3⟩
 have HB3:=AA (HBD.out.trans (hb3.mono HBD.out.size))
 have HP3:=AA (HPD.out.below hb3)
 have HO3:=AA hown3
 have hs3:=hb3.size
 clear p0 d0 d1 d2 d3 d4 z0 zf0
 clear HP hb3 hown3 HCL HPD HBD
 have HP:=HP3
 have p0:w3.cell? ⟨w.heap.size,0,none⟩=some (.slice A N c):=HP.out.p.cell 0
 have d0:w3.cell? ⟨w.heap.size+1,0,none⟩=some (.int .i64 1):=HP.out.d.cell 0
 have d1:w3.cell? ⟨w.heap.size+1,1,none⟩=some (.int .i64 xn):=HP.out.d.cell 1
 have d2:w3.cell? ⟨w.heap.size+1,2,none⟩=some (.string xnm):=HP.out.d.cell 2
 have d3:w3.cell? ⟨w.heap.size+1,3,none⟩=some (.string xt):=HP.out.d.cell 3
 have d4:w3.cell? ⟨w.heap.size+1,4,none⟩=some (.slice xA xm xc):=HP.out.d.cell 4
 have z0:w3.cell? ⟨w.heap.size+1+1,0,none⟩=some (.slice none 0 0):=HP.out.z.cell 0
 have zf0:=HP.out.z.frozen 0
 go_wp2_with fail
 refine ED HF1 ?_ ⟨p0,d2,d3⟩
 repeat(first|((first|refine Dt ?_|refine Du ?_);intro K hK;go_big_quiet_op;go_big_quiet_on)|((first|refine Dv ?_|refine Dw ?_);simp only[Act.put,AB,AE,AF]))
 refine A0a ?_
 go_wp2_with fail
 refine(HLF.out w3).mono ?_
 rintro e w4 ⟨rfl,hb4⟩
 have HB4:=AA (HB3.out.trans (hb4.mono HB3.out.size))
 have HP4:=AA (HP3.out.below hb4)
 have HO4:Hid (w4.ownsRow w2.drew.heap.size 82 6 v3 N (A1b rs)):=A1l HO3.out hb4
 have hs4:=hb4.size
 clear p0 d0 d1 d2 d3 d4 z0 zf0
 clear HP hb4 HO3 HLF HP3 HB3
 have HP:=HP4
 have p0:w4.cell? ⟨w.heap.size,0,none⟩=some (.slice A N c):=HP.out.p.cell 0
 have d0:w4.cell? ⟨w.heap.size+1,0,none⟩=some (.int .i64 1):=HP.out.d.cell 0
 have d1:w4.cell? ⟨w.heap.size+1,1,none⟩=some (.int .i64 xn):=HP.out.d.cell 1
 have d2:w4.cell? ⟨w.heap.size+1,2,none⟩=some (.string xnm):=HP.out.d.cell 2
 have d3:w4.cell? ⟨w.heap.size+1,3,none⟩=some (.string xt):=HP.out.d.cell 3
 have d4:w4.cell? ⟨w.heap.size+1,4,none⟩=some (.slice xA xm xc):=HP.out.d.cell 4
 have z0:w4.cell? ⟨w.heap.size+1+1,0,none⟩=some (.slice none 0 0):=HP.out.z.cell 0
 have zf0:=HP.out.z.frozen 0
 go_wp2_with fail
 refine ED HF1 ?_ ⟨p0,d2,d3⟩
 repeat(first|((first|refine Dt ?_|refine Du ?_);intro K hK;go_big_quiet_op;go_big_quiet_on)|((first|refine Dv ?_|refine Dw ?_);simp only[Act.put,AB,AE,AF]))
 refine A0a ?_
 have hnw:∀j u,([.string xnm,.string xt,.string (newD xt),.int .i64 ((newD xt).size:Int),.slice none 0 0,.slice none 0 0]:List Value)[j]? =some u→(w4.alloc (.cells #[.string xnm,.string xt,.string (newD xt),.int .i64 ((newD xt).size:Int),.slice none 0 0,.slice none 0 0] 82)).cell? (Addr.add ⟨w4.heap.size,0,none⟩ j)=some u:=fun j u hj=>A3m w4 #[.string xnm,.string xt,.string (newD xt),.int .i64 ((newD xt).size:Int),.slice none 0 0,.slice none 0 0] 82 j u hj
 have HP5:Hid (H3 (w4.alloc (.cells #[.string xnm,.string xt,.string (newD xt),.int .i64 ((newD xt).size:Int),.slice none 0 0,.slice none 0 0] 82)) w.heap.size (.slice A N c) ⟨1,xn,xnm,xt,xA,xm,xc,xl⟩ (.slice none 0 0)):=HP4.out.below ((AI _ _).alloc (AD _) _)
 have HB5:Hid (Below w.heap.size w (w4.alloc (.cells #[.string xnm,.string xt,.string (newD xt),.int .i64 ((newD xt).size:Int),.slice none 0 0,.slice none 0 0] 82))):=HB4.out.alloc HB4.out.size _
 have hownA:World.ownsRow (w4.alloc (.cells #[.string xnm,.string xt,.string (newD xt),.int .i64 ((newD xt).size:Int),.slice none 0 0,.slice none 0 0] 82)) w2.drew.heap.size 82 6 v3 N (A1b rs):=BE HO4.out _
 have hsA:w2.drew.heap.size≤(w4.alloc (.cells #[.string xnm,.string xt,.string (newD xt),.int .i64 ((newD xt).size:Int),.slice none 0 0,.slice none 0 0] 82)).heap.size:=by rw[Ar];omega
 clear p0 d0 d1 d2 d3 d4 z0 zf0
 clear HP HP4 HB4
 go_wp2_with fail
 have HP:=HP5
 have p0:(w4.alloc (.cells #[.string xnm,.string xt,.string (newD xt),.int .i64 ((newD xt).size:Int),.slice none 0 0,.slice none 0 0] 82)).cell? ⟨w.heap.size,0,none⟩=some (.slice A N c):=HP.out.p.cell 0
 have d0:(w4.alloc (.cells #[.string xnm,.string xt,.string (newD xt),.int .i64 ((newD xt).size:Int),.slice none 0 0,.slice none 0 0] 82)).cell? ⟨w.heap.size+1,0,none⟩=some (.int .i64 1):=HP.out.d.cell 0
 have d1:(w4.alloc (.cells #[.string xnm,.string xt,.string (newD xt),.int .i64 ((newD xt).size:Int),.slice none 0 0,.slice none 0 0] 82)).cell? ⟨w.heap.size+1,1,none⟩=some (.int .i64 xn):=HP.out.d.cell 1
 have d2:(w4.alloc (.cells #[.string xnm,.string xt,.string (newD xt),.int .i64 ((newD xt).size:Int),.slice none 0 0,.slice none 0 0] 82)).cell? ⟨w.heap.size+1,2,none⟩=some (.string xnm):=HP.out.d.cell 2
 have d3:(w4.alloc (.cells #[.string xnm,.string xt,.string (newD xt),.int .i64 ((newD xt).size:Int),.slice none 0 0,.slice none 0 0] 82)).cell? ⟨w.heap.size+1,3,none⟩=some (.string xt):=HP.out.d.cell 3
 have d4:(w4.alloc (.cells #[.string xnm,.string xt,.string (newD xt),.int .i64 ((newD xt).size:Int),.slice none 0 0,.slice none 0 0] 82)).cell? ⟨w.heap.size+1,4,none⟩=some (.slice xA xm xc):=HP.out.d.cell 4
 have z0:(w4.alloc (.cells #[.string xnm,.string xt,.string (newD xt),.int .i64 ((newD xt).size:Int),.slice none 0 0,.slice none 0 0] 82)).cell? ⟨w.heap.size+1+1,0,none⟩=some (.slice none 0 0):=HP.out.z.cell 0
 have zf0:=HP.out.z.frozen 0
 refine ED HF1 ?_ ⟨p0,d2,d3⟩
 repeat(first|((first|refine Dt ?_|refine Du ?_);intro K hK;go_big_quiet_op;go_big_quiet_on)|((first|refine Dv ?_|refine Dw ?_);simp only[Act.put,AB,AE,AF]))
 refine A0a ?_
 clear p0 d0 d1 d2 d3 d4 z0 zf0
 go_wp2_with (at_builtin;go_must (refine A0r rfl _ _ _ rfl w2.drew.heap.size 82 i0 _ 6 104 Tryz.underlying27 hi0 hz0 hz1 hz2 rfl EE _ N (A1b rs) rfl hownA ⟨w4.heap.size,0,none⟩ 1 1 [.string xnm,.string xt,.string (newD xt),.int .i64 ((newD xt).size:Int),.slice none 0 0,.slice none 0 0] rfl rfl hnw (by simp[Value.oneCell']) EE EE hsA ?_);intro v6 w6 hown6 hg6 hb6;obtain⟨A6,c6,rfl,_,_,_⟩:=OwnO.form (OwnO.of_own hown6))
 have HP6:Hid (H3 w6 w.heap.size (.slice A N c) ⟨1,xn,xnm,xt,xA,xm,xc,xl⟩ (.slice none 0 0)):=HP5.out.grown hg6 (fun k hk=>AO hg2 (hownA.lt k hk).1)
 have HB6:Hid (Below w.heap.size w w6):=HB5.out.trans (hb6.mono hs2)
 have HO6:Hid (OwnO w6 w2.drew.heap.size 82 6 (.slice A6 (N+1) c6) (N+1) (A1b (rs++ [⟨A2z xnm xt,none,0,none,0⟩]))):=by
  rw[Hid,A9G]
  exact OwnO.of_own hown6
 have hl:(rs++ [(⟨A2z xnm xt,none,0,none,0⟩:Rc)]).length=N+1:=by rw[AJ,HN.out];rfl
 have HLL:=AA hl
 clear hl hown6 hg6 hb6 hownA hnw hsA HP HP5 HB5
 have HP:=HP6
 have p0:w6.cell? ⟨w.heap.size,0,none⟩=some (.slice A N c):=HP.out.p.cell 0
 have d0:w6.cell? ⟨w.heap.size+1,0,none⟩=some (.int .i64 1):=HP.out.d.cell 0
 have d1:w6.cell? ⟨w.heap.size+1,1,none⟩=some (.int .i64 xn):=HP.out.d.cell 1
 have d2:w6.cell? ⟨w.heap.size+1,2,none⟩=some (.string xnm):=HP.out.d.cell 2
 have d3:w6.cell? ⟨w.heap.size+1,3,none⟩=some (.string xt):=HP.out.d.cell 3
 have d4:w6.cell? ⟨w.heap.size+1,4,none⟩=some (.slice xA xm xc):=HP.out.d.cell 4
 have z0:w6.cell? ⟨w.heap.size+1+1,0,none⟩=some (.slice none 0 0):=HP.out.z.cell 0
 have zf0:=HP.out.z.frozen 0
 refine ED HF1 ?_ ⟨p0,d2,d3⟩
 repeat(first|((first|refine Dt ?_|refine Du ?_);intro K hK;go_big_quiet_op;go_big_quiet_on)|((first|refine Dv ?_|refine Dw ?_);simp only[Act.put,AB,AE,AF]))
 refine A0a ?_
 go_wp2_with fail
 have q0:(w6.setCell ⟨w.heap.size+1+1,0,none⟩ (.slice A6 (N+1) c6)).cell? ⟨w.heap.size,0,none⟩=some (.slice A N c):=(HP6.out.p.far (p:=⟨w.heap.size+1+1,0,none⟩) (by show w.heap.size≠w.heap.size+1+1;omega) _).cell 0
 have q2:(w6.setCell ⟨w.heap.size+1+1,0,none⟩ (.slice A6 (N+1) c6)).cell? ⟨w.heap.size+1,2,none⟩=some (.string xnm):=(HP6.out.d.far (p:=⟨w.heap.size+1+1,0,none⟩) (by show w.heap.size+1≠w.heap.size+1+1;omega) _).cell 2
 have q3:(w6.setCell ⟨w.heap.size+1+1,0,none⟩ (.slice A6 (N+1) c6)).cell? ⟨w.heap.size+1,3,none⟩=some (.string xt):=(HP6.out.d.far (p:=⟨w.heap.size+1+1,0,none⟩) (by show w.heap.size+1≠w.heap.size+1+1;omega) _).cell 3
 refine ED HF1 ?_ ⟨q0,q2,q3⟩
 repeat(first|((first|refine Dt ?_|refine Du ?_);intro K hK;go_big_quiet_op;go_big_quiet_on)|((first|refine Dv ?_|refine Dw ?_);simp only[Act.put,AB,AE,AF]))
 refine A0g ?_
 go_wp2_with fail
 (apply bodyPost_ret;(simp[results,Tryz.results9,go_sem,z0];rfl);rfl)
 refine⟨A6,c6,rs++ [⟨A2z xnm xt,none,0,none,0⟩], ?_,by rw[BM];rfl,B2z HO6.out HLL.out (fun k hk=>AO (HKK.out k hk) hs2) hg2 (fun r hr=> ?_),bel1 HB6.out (le2 _)⟩
 ·rw[HLL.out]
 ·rcases Af.1 hr with hr|hr
  ·exact(HRR.out _ (bel1 HB6.out (le2 _))).pg r hr
  ·rw[Ax.1 hr];exact B6O _ K _ rfl rfl
theorem pg_bad{s:Ps}{x:Dd}(h:pgE s x≠0):pgP s x=s:=by
 unfold pgE at h
 unfold pgP
 by_cases e2:x.kind=2
 ·rw[if_pos e2] at h⊢
  unfold edP;rw[if_neg h]
 rw[if_neg e2] at h⊢
 by_cases e3:x.kind=3
 ·rw[if_pos e3] at h⊢
  unfold unP;rw[if_neg h]
 rw[if_neg e3] at h⊢
 by_cases e4:x.kind=4
 ·rw[if_pos e4] at h⊢
  unfold reP;rw[if_neg h]
 rw[if_neg e4] at h⊢
 by_cases e5:x.kind=5
 ·rw[if_pos e5] at h
  exact absurd rfl h
 rw[if_neg e5] at h⊢
 by_cases e6:x.kind=6
 ·rw[if_pos e6] at h⊢
  exact B3I h
 rw[if_neg e6] at h⊢
 by_cases e7:x.kind=7
 ·rw[if_pos e7] at h⊢
  unfold crP;rw[if_neg h]
 rw[if_neg e7] at h⊢
 unfold mkPE at h
 unfold mkP
 by_cases hm:mkE s.tx x.text=0
 ·rw[if_pos hm] at h⊢
  unfold edP;rw[if_neg h]
 ·rw[if_neg hm]
theorem setK{w:World}{K K2:Nat→Prop}{r:Rc}{g i:Nat}{u:Value}(h:RcAt w K2 r)(hg:K2 g)(hK:∀k,K k→K2 k):RcAt (w.setCell ⟨g,i,none⟩ u) K r:=
 (h.chg ((Chg.setH w ⟨g,i,none⟩ u).monoH fun k _ hk=>by rw[hk];exact hg)).mono fun k hk=> .inl (hK k hk)
theorem B9f{w W:World}{B:Nat}{p:Addr}{a0 a1 a2 a3 a4 a5:Value}(hb:Below B w W)(hg:B≤p.block):
 Below B w ((((((W.setCell p a0).setCell ⟨p.block,p.off+1,none⟩ a1).setCell ⟨p.block,p.off+2,none⟩ a2).setCell ⟨p.block,p.off+3,none⟩ a3).setCell ⟨p.block,p.off+4,none⟩ a4).setCell ⟨p.block,p.off+5,none⟩ a5):=
 (((((hb.setCell (p:=p) hg a0).setCell (p:=⟨p.block,p.off+1,none⟩) hg a1).setCell (p:=⟨p.block,p.off+2,none⟩) hg a2).setCell (p:=⟨p.block,p.off+3,none⟩) hg a3).setCell (p:=⟨p.block,p.off+4,none⟩) hg a4).setCell (p:=⟨p.block,p.off+5,none⟩) hg a5
theorem H3.six{w:World}{g:Nat}{hv zv:Value}{x:Dd}{p:Addr}{a0 a1 a2 a3 a4 a5:Value}(h:H3 w g hv x zv)(hp:g+1+1<p.block):
 H3 ((((((w.setCell p a0).setCell ⟨p.block,p.off+1,none⟩ a1).setCell ⟨p.block,p.off+2,none⟩ a2).setCell ⟨p.block,p.off+3,none⟩ a3).setCell ⟨p.block,p.off+4,none⟩ a4).setCell ⟨p.block,p.off+5,none⟩ a5) g hv x zv:=by
 have one:∀{w:World} (q:Addr) (u:Value),q.block=p.block→H3 w g hv x zv→H3 (w.setCell q u) g hv x zv:=fun q u hq h=>⟨h.p.far (by rw[hq];omega) u,h.d.far (by rw[hq];omega) u,h.z.far (by rw[hq];omega) u⟩
 exact one _ _ rfl (one _ _ rfl (one _ _ rfl (one _ _ rfl (one _ _ rfl (one _ _ rfl h)))))
theorem A4E(ad:Addr)(k j:Nat)(hj:j≠0):ad.add (k+j)=⟨(ad.add k).block,(ad.add k).off+j,none⟩:=by
 rw[←A2A]
 unfold Addr.add
 rw[if_neg hj]
theorem B6U{w:World}{B N c i:Nat}{ad:Addr}{rs:List Rc}(y:Rc)(h:OwnO w B 82 6 (.slice (some ad) N c) N (A1b rs))(hi:i<rs.length)(hN:rs.length=N):
 OwnO ((((((w.setCell (ad.add (i*6)) (.string y.s.nm)).setCell ⟨(ad.add (i*6)).block,(ad.add (i*6)).off+1,none⟩ (.string y.s.tx)).setCell ⟨(ad.add (i*6)).block,(ad.add (i*6)).off+2,none⟩ (.string y.s.d)).setCell ⟨(ad.add (i*6)).block,(ad.add (i*6)).off+3,none⟩ (.int .i64 (y.s.sf:Int))).setCell ⟨(ad.add (i*6)).block,(ad.add (i*6)).off+4,none⟩ (.slice y.Ab y.s.back.length y.cb)).setCell ⟨(ad.add (i*6)).block,(ad.add (i*6)).off+5,none⟩ (.slice y.Ao y.s.onward.length y.co)) B 82 6 (.slice (some ad) N c) N (A1b (rs.set i y)):=by
 obtain⟨x0,hx0⟩:∃x0,rs[i]? =some x0:=⟨_,AL hi⟩
 have key:∀(l:List Rc) (x z:Rc) (j:Nat) (u:Value),l[i]? =some x→z.cells=x.cells.set j u→j<6→(A1b l).set (i*6+j) u=A1b (l.set i z):=fun l x z j u h1 h2 h3=>A7l B2d h3 l i x h1 h2
 have get:∀z:Rc,(rs.set i z)[i]? =some z:=fun z=>by rw[List.getElem?_set_self hi]
 obtain⟨⟨n0,t0,d0,f0,b0,o0⟩,Ab0,cb0,Ao0,co0⟩:=x0
 obtain⟨⟨yn,yt,yd,yf,yb,yo⟩,yAb,ycb,yAo,yco⟩:=y
 simp only
 rw[←A4E ad (i*6) 1 EF,←A4E ad (i*6) 2 EF,←A4E ad (i*6) 3 EF,←A4E ad (i*6) 4 EF,←A4E ad (i*6) 5 EF]
 have s0:=(A0l h (j:=i*6+0) EE (.string yn)).1
 rw[key rs _ ⟨⟨yn,t0,d0,f0,b0,o0⟩,Ab0,cb0,Ao0,co0⟩ 0 (.string yn) hx0 rfl EF] at s0
 have s1:=(A0l s0 (j:=i*6+1) EE (.string yt)).1
 rw[key _ ⟨⟨yn,t0,d0,f0,b0,o0⟩,Ab0,cb0,Ao0,co0⟩ ⟨⟨yn,yt,d0,f0,b0,o0⟩,Ab0,cb0,Ao0,co0⟩ 1 (.string yt) (get _) rfl EF,Dr] at s1
 have s2:=(A0l s1 (j:=i*6+2) EE (.string yd)).1
 rw[key _ ⟨⟨yn,yt,d0,f0,b0,o0⟩,Ab0,cb0,Ao0,co0⟩ ⟨⟨yn,yt,yd,f0,b0,o0⟩,Ab0,cb0,Ao0,co0⟩ 2 (.string yd) (get _) rfl EF,Dr] at s2
 have s3:=(A0l s2 (j:=i*6+3) EE (.int .i64 (yf:Int))).1
 rw[key _ ⟨⟨yn,yt,yd,f0,b0,o0⟩,Ab0,cb0,Ao0,co0⟩ ⟨⟨yn,yt,yd,yf,b0,o0⟩,Ab0,cb0,Ao0,co0⟩ 3 (.int .i64 (yf:Int)) (get _) rfl EF,Dr] at s3
 have s4:=(A0l s3 (j:=i*6+4) EE (.slice yAb yb.length ycb)).1
 rw[key _ ⟨⟨yn,yt,yd,yf,b0,o0⟩,Ab0,cb0,Ao0,co0⟩ ⟨⟨yn,yt,yd,yf,yb,o0⟩,yAb,ycb,Ao0,co0⟩ 4 (.slice yAb yb.length ycb) (get _) rfl EF,Dr] at s4
 have s5:=(A0l s4 (j:=i*6+5) EE (.slice yAo yo.length yco)).1
 rw[key _ ⟨⟨yn,yt,yd,yf,yb,o0⟩,yAb,ycb,Ao0,co0⟩ ⟨⟨yn,yt,yd,yf,yb,yo⟩,yAb,ycb,yAo,yco⟩ 5 (.slice yAo yo.length yco) (get _) rfl EF,Dr] at s5
 exact s5
theorem B9g{w:World}{B n c:Nat}{ad:Addr}{e:TypeId}{size:Nat}{xs:List Value}(h:OwnO w B e size (.slice (some ad) n c) n xs)(k:Nat):∃g o,ad.add k=⟨g,o,none⟩∧g=ad.block:=by
 rcases h.2 with⟨h1,_⟩|⟨g,o,cap,cur,h1,_⟩
 ·cases h1
 ·injection h1 with h1 _ _
  injection h1 with h1
  subst h1
  exact⟨g,o+k,by unfold Addr.add;split<;>simp_all,rfl⟩
theorem B4R(A:Option Addr)(c:Nat)(rs:List Rc)(x:Dd)(K:Nat→Prop)(w:World)(hf:RoOk w K A c rs x)(h2:2≤x.kind)(h10:x.kind≤10)(h8:x.kind≠8)(h9:x.kind≠9)(hn:A0K x.name=true)(i:Nat)(hi:fnd x.name (rs.map Rc.s)=i)(hil:i<rs.length):Calls Tryz.prog 9 #[.agg #[.slice A rs.length c],x.val,.func (.func 10) #[] #[]] w (A1v w K rs x):=by
 obtain⟨i0,hi0,hz0,hz1,hz2⟩:=info_parts A7F
 obtain⟨hq1,hq2,hq3⟩:=B6S (rs:=rs) h2 h10 h8 h9 hn hi hil
 have hrk:RcAt w K rs[i]:=hf.at_.pg _ (Ac hil)
 have hokr:PsOk rs[i].s:=hf.o.pg _ (Bm (Ac hil))
 have HPG:=AA (fun W (K':Nat→Prop) (hW:Below w.heap.size w W) (hK1:∀k,K' k→K k∨w.heap.size≤k) (hK2:∀k,K' k→k<W.heap.size)=>B6P rs[i] x K' W ⟨(hrk.mono hK1).below hW,hK2,hokr,(hf.e.below hW).more hW.size,hf.m,A0c hf.t hW,hf.x.elim fun mx hmx=>⟨mx,(hW.cell (p:=⟨0,0,none⟩) hf.g).trans hmx⟩,AO hf.g hW.size⟩ h2 h10 h8 h9)
 have HBAD:Hid (pgE rs[i].s x≠0→pgP rs[i].s x=rs[i].s):=pg_bad
 have HSET:Hid ((rs.map Rc.s).set i rs[i].s=rs.map Rc.s):=by
  have e:rs[i].s=(rs.map Rc.s)[i]'(by rw[AW];exact hil):=by rw[Bf]
  rw[Hid,e,List.set_getElem_self]
 unfold A2S at HPG
 obtain⟨EX,hEX⟩:∃EX,pgE rs[i].s x=EX:=⟨_,rfl⟩
 obtain⟨PX,hPX⟩:∃PX,pgP rs[i].s x=PX:=⟨_,rfl⟩
 rw[hEX] at hq1 HBAD HPG
 rw[hPX] at hq3 HBAD HPG
 obtain⟨r,hr⟩:∃r,rs[i]=r:=⟨_,rfl⟩
 rw[hr] at HPG HBAD HSET
 have HR:=AA hr
 clear hEX hPX hrk hokr hr
 have hz:idxZ x.name (rs.map Rc.s)=(i:Int):=by rw[A2b (by rw[hi,AW];exact hil),hi]
 obtain⟨hr,hK,hok,hnm,htx,hre,hxm,htb,⟨mx,hmx⟩,hmg⟩:=hf
 have hn6:rs.length≤6:=by have:=hok.n;rwa[AW] at this
 have HOKP:=AA hok
 have HRR:Hid (∀W,Below w.heap.size w W→RhAt W K A c rs):=fun W hW=>hr.below hW
 have HKK:=AA hK
 have HRE:Hid (∀W,Below w.heap.size w W→Rd W w.heap.size 3 x.A x.m (A0f x.l)):=fun W hW=>hre.below hW
 have HTB:Hid (∀W,Below w.heap.size w W→TabI W):=fun W hW=>A0c htb hW
 have HMX:Hid (∀W,Below w.heap.size w W→W.cell? ⟨0,0,none⟩=some (.int .i64 mx)):=fun W hb=>(hb.cell (p:=⟨0,0,none⟩) hmg).trans hmx
 have HNM:=AA (fun W=>A1C x.name W hnm)
 have HID:=AA (fun W g (hW:Below w.heap.size w W) (hg:g<W.heap.size) (hc:W.cell? ⟨g,2,none⟩=some (.string x.name))=>A2p rs x.name A rs.length c w.heap.size g W (hr.row.rd.below hW) hW.size EE rfl hg hc)
 have HTX:=AA htx
 have HXM:=AA hxm
 have HH3:=AA (A3M w (.slice A rs.length c) x)
 have hbA:Below w.heap.size w (((w.alloc (.cells #[.slice A rs.length c] 29)).alloc (.cells x.cells 32)).alloc (.cells #[.slice none 0 0] 29)):=Ds
 have HBA:=AA hbA
 unfold A1v
 rw[hq1,hq2,hq3]
 obtain⟨wA,hwA⟩:∃wA,wA=(((w.alloc (.cells #[.slice A rs.length c] 29)).alloc (.cells x.cells 32)).alloc (.cells #[.slice none 0 0] 29)):=⟨_,rfl⟩
 rw[←hwA] at HH3 HBA
 have HWA:=AA hwA
 clear hwA hr hK hok hnm htx hre hxm htb hmx hbA hq1 hq2 hq3
 rw[hn] at HNM
 rw[hz] at HID
 clear hz hi
 obtain⟨xk,xn,xnm,xt,xA,xm,xc,xl⟩:=x
 unfold Dd.val
 unfold Dd.cells at HWA
 simp only at*
 obtain⟨N,hN⟩:∃N,rs.length=N:=⟨_,rfl⟩
 rw[hN] at HH3 HWA HID hn6⊢
 have HN:=AA hN
 clear hN
 have hil2:i<N:=by have:=HN.out;omega
 obtain⟨⟨rn,rtx,rd,rsf,rb,ro⟩,rAb,rcb,rAo,rco⟩:=r
 unfold Rc.val Dd.val at HPG
 simp only at HPG h2 h10 h8 h9
 have g1:decide (xk<1)=false:=AC EE
 have g2:decide (10<xk)=false:=AC EE
 have g3:(xk==1)=false:=by rw[AH];omega
 have g4:(xk==8)=false:=by rw[AH];exact h8
 have g5:(xk==9)=false:=by rw[AH];exact h9
 clear h2 h10 h8 h9
 go_enter Tryz.func9,Tryz.ntmps9
 go_wp2_with fail
 rw[←HWA.out]
 refine(HNM.out wA).mono ?_
 rintro e w1 ⟨rfl,hb1⟩
 have HB1:=AA (HBA.out.trans (hb1.mono HBA.out.size))
 have HP:=AA (HH3.out.below hb1)
 clear hb1
 have p0:w1.cell? ⟨w.heap.size,0,none⟩=some (.slice A N c):=HP.out.p.cell 0
 have d0:w1.cell? ⟨w.heap.size+1,0,none⟩=some (.int .i64 xk):=HP.out.d.cell 0
 have d1:w1.cell? ⟨w.heap.size+1,1,none⟩=some (.int .i64 xn):=HP.out.d.cell 1
 have d2:w1.cell? ⟨w.heap.size+1,2,none⟩=some (.string xnm):=HP.out.d.cell 2
 have d3:w1.cell? ⟨w.heap.size+1,3,none⟩=some (.string xt):=HP.out.d.cell 3
 have d4:w1.cell? ⟨w.heap.size+1,4,none⟩=some (.slice xA xm xc):=HP.out.d.cell 4
 have z0:w1.cell? ⟨w.heap.size+1+1,0,none⟩=some (.slice none 0 0):=HP.out.z.cell 0
 have zf0:=HP.out.z.frozen 0
 have hg1:w.heap.size+1<w1.heap.size:=HP.out.d.lt
 go_wp2_with fail
 refine(HID.out w1 _ HB1.out hg1 d2).mono ?_
 rintro e w2 ⟨rfl,hb2⟩
 have HB2:=AA (HB1.out.trans (hb2.mono HB1.out.size))
 have HP2:=AA (HP.out.below hb2)
 clear p0 d0 d1 d2 d3 d4 z0 zf0
 clear HP hb2 HID HNM hg1
 have HP:=HP2
 have p0:w2.cell? ⟨w.heap.size,0,none⟩=some (.slice A N c):=HP.out.p.cell 0
 have d0:w2.cell? ⟨w.heap.size+1,0,none⟩=some (.int .i64 xk):=HP.out.d.cell 0
 have d1:w2.cell? ⟨w.heap.size+1,1,none⟩=some (.int .i64 xn):=HP.out.d.cell 1
 have d2:w2.cell? ⟨w.heap.size+1,2,none⟩=some (.string xnm):=HP.out.d.cell 2
 have d3:w2.cell? ⟨w.heap.size+1,3,none⟩=some (.string xt):=HP.out.d.cell 3
 have d4:w2.cell? ⟨w.heap.size+1,4,none⟩=some (.slice xA xm xc):=HP.out.d.cell 4
 have z0:w2.cell? ⟨w.heap.size+1+1,0,none⟩=some (.slice none 0 0):=HP.out.z.cell 0
 have zf0:=HP.out.z.frozen 0
 have hrd:=(HRR.out w2 HB2.out).row.rd
 rw[HN.out] at hrd
 obtain⟨ad,hA,_,r0,r1,r2,r3,r4,r5⟩:=A6j hrd hil HN.out
 have hab:=(HRR.out w (AI _ _)).row.lt ad hA
 subst hA
 rw[HR.out] at r0 r1 r2 r3 r4 r5
 simp only at r0 r1 r2 r3 r4 r5
 obtain⟨nb,hnb⟩:∃nb,rb.length=nb:=⟨_,rfl⟩
 obtain⟨no,hno⟩:∃no,ro.length=no:=⟨_,rfl⟩
 rw[hnb] at r4 HPG
 rw[hno] at r5 HPG
 clear hnb hno
 have hgi:decide (i<N)=true:=AG hil2
 have hpb:(ad.add (i*6)).block<w.heap.size:=by rw[A0z];exact hab
 go_wp2_with fail
 obtain⟨F1,HF1,hcell10,hcell11,hcell12,hcell13,hcell14,hcell15,hcell16,hcell17,hcell18,hcell19,hcell110,hcell111⟩:=cells12 ⟨w.heap.size,0,none⟩ (.slice (some ad) N c) ⟨w.heap.size+1,0,none⟩ (.int .i64 xk) ⟨w.heap.size+1,1,none⟩ (.int .i64 xn) ⟨w.heap.size+1,2,none⟩ (.string xnm) ⟨w.heap.size+1,3,none⟩ (.string xt) ⟨w.heap.size+1,4,none⟩ (.slice xA xm xc) (ad.add (i*6)) (.string rn) ⟨(ad.add (i*6)).block,(ad.add (i*6)).off+1,none⟩ (.string rtx) ⟨(ad.add (i*6)).block,(ad.add (i*6)).off+2,none⟩ (.string rd) ⟨(ad.add (i*6)).block,(ad.add (i*6)).off+3,none⟩ (.int .i64 (rsf:Int)) ⟨(ad.add (i*6)).block,(ad.add (i*6)).off+4,none⟩ (.slice rAb nb rcb) ⟨(ad.add (i*6)).block,(ad.add (i*6)).off+5,none⟩ (.slice rAo no rco)
 refine EC (.op 0 true (.op 1 true (.op 2 true (.op 3 true (.op 4 true (.op 5 true (.op 6 true (.fork 7 11 (.op 8 true (.op 9 true (.op 10 true (.op 11 false (.op 12 false .nil))))) (.op 7 false (.op 8 true (.op 9 true (.op 10 true (.op 12 false .nil))))))))))))) 13 13 [] HF1 ?_
 intro hne1
 simp only[A1L,A2I,AT,AP,AR]
 repeat(first|((first|refine Dx ?_|refine Dy ?_);intro K hK;go_big_quiet_op;go_big_quiet_on)|((first|refine Dz ?_|refine EA ?_);simp only[Act.put,AB,AE,AF]))
 have hgd:w.heap.size+1+1<w2.heap.size:=HP2.out.z.lt
 have HQ:Hid (∀W,Below w2.heap.size w2 W→(W.cell? ⟨w.heap.size,0,none⟩=some (.slice (some ad) N c)∧W.cell? ⟨w.heap.size+1,0,none⟩=some (.int .i64 xk)∧W.cell? ⟨w.heap.size+1,1,none⟩=some (.int .i64 xn)∧W.cell? ⟨w.heap.size+1,2,none⟩=some (.string xnm)∧W.cell? ⟨w.heap.size+1,3,none⟩=some (.string xt)∧W.cell? ⟨w.heap.size+1,4,none⟩=some (.slice xA xm xc)∧
  W.cell? (ad.add (i*6))=some (.string rn)∧W.cell? ⟨(ad.add (i*6)).block,(ad.add (i*6)).off+1,none⟩=some (.string rtx)∧W.cell? ⟨(ad.add (i*6)).block,(ad.add (i*6)).off+2,none⟩=some (.string rd)∧W.cell? ⟨(ad.add (i*6)).block,(ad.add (i*6)).off+3,none⟩=some (.int .i64 (rsf:Int))∧W.cell? ⟨(ad.add (i*6)).block,(ad.add (i*6)).off+4,none⟩=some (.slice rAb nb rcb)∧W.cell? ⟨(ad.add (i*6)).block,(ad.add (i*6)).off+5,none⟩=some (.slice rAo no rco))):=fun W hW=>by
  have l0:w.heap.size<w2.heap.size:=HP2.out.p.lt
  have l1:w.heap.size+1<w2.heap.size:=HP2.out.d.lt
  have lp:(ad.add (i*6)).block<w2.heap.size:=Nat.lt_trans hpb l0
  exact⟨(hW.cell (p:=⟨w.heap.size,0,none⟩) l0).trans p0,(hW.cell (p:=⟨w.heap.size+1,0,none⟩) l1).trans d0,(hW.cell (p:=⟨w.heap.size+1,1,none⟩) l1).trans d1,(hW.cell (p:=⟨w.heap.size+1,2,none⟩) l1).trans d2,(hW.cell (p:=⟨w.heap.size+1,3,none⟩) l1).trans d3,(hW.cell (p:=⟨w.heap.size+1,4,none⟩) l1).trans d4,
   (hW.cell (p:=ad.add (i*6)) lp).trans r0,(hW.cell (p:=⟨(ad.add (i*6)).block,(ad.add (i*6)).off+1,none⟩) lp).trans r1,(hW.cell (p:=⟨(ad.add (i*6)).block,(ad.add (i*6)).off+2,none⟩) lp).trans r2,(hW.cell (p:=⟨(ad.add (i*6)).block,(ad.add (i*6)).off+3,none⟩) lp).trans r3,(hW.cell (p:=⟨(ad.add (i*6)).block,(ad.add (i*6)).off+4,none⟩) lp).trans r4,(hW.cell (p:=⟨(ad.add (i*6)).block,(ad.add (i*6)).off+5,none⟩) lp).trans r5⟩
 clear p0 d0 d1 d2 d3 d4 z0 zf0
 clear r0 r1 r2 r3 r4 r5 HP
 refine A2n ?_ ?_
 ·have HBW:Hid (Below w2.heap.size w2 w2.drew):=Bl (AI _ _)
  go_wp2_with fail
  have HBX:Hid (Below w.heap.size w w2.drew):=HB2.out.trans (HBW.out.mono HB2.out.size)
  refine(HPG.out w2.drew (fun k=>K k∨k=w.heap.size+1+1) HBX.out (fun k hk=>hk.elim .inl fun e=> .inr EE) (fun k hk=>hk.elim (fun h=>AO (HKK.out k h) HBX.out.size) (fun e=>by rw[e];exact AO hgd HBW.out.size))).mono ?_
  rintro e w3 ⟨r',rfl,hs',hat',hb3⟩
  obtain⟨⟨an,atx,adt,asf,ab,ao⟩,aAb,acb,aAo,aco⟩:=r'
  simp only at hs'
  have HS:=AA hs'
  have HAT:=AA hat'
  obtain⟨nab,hnab⟩:∃nab,ab.length=nab:=⟨_,rfl⟩
  obtain⟨nao,hnao⟩:∃nao,ao.length=nao:=⟨_,rfl⟩
  have HNAB:=AA hnab
  have HNAO:=AA hnao
  have HBN:=AA (HBW.out.trans (hb3.mono HBW.out.size))
  have HB3:=AA hb3
  clear hb3 hs' hat'
  simp only
  rw[hnab,hnao]
  clear hnab hnao
  go_wp2_with fail
  refine ED HF1 ?_ (HQ.out w3 HBN.out)
  repeat(first|((first|refine Dx ?_|refine Dy ?_);intro K hK;go_big_quiet_op;go_big_quiet_on)|((first|refine Dz ?_|refine EA ?_);simp only[Act.put,AB,AE,AF]))
  refine A0s ?_
  go_wp2_with fail
  have hb2:w2.heap.size≤w3.heap.size:=HBN.out.size
  have P2:Hid (Blk (w3.alloc (.cells A1u 82)) w3.heap.size 82 A1u):=Blk.new_ _ _ _
  have hbn:Below w3.heap.size w3 (w3.alloc (.cells A1u 82)):=(AI _ _).alloc (AD _) _
  have HB24:Hid (Below w2.heap.size w2 (w3.alloc (.cells A1u 82))):=HBN.out.trans (hbn.mono HBN.out.size)
  have HP4:Hid (H3 (w3.alloc (.cells A1u 82)) w.heap.size (.slice (some ad) N c) ⟨xk,xn,xnm,xt,xA,xm,xc,xl⟩ (.slice none 0 0)):=HP2.out.below HB24.out
  have HAT4:Hid (RcAt (w3.alloc (.cells A1u 82)) (fun k=>K k∨k=w.heap.size+1+1∨k=w3.heap.size) ⟨⟨an,atx,adt,asf,ab,ao⟩,aAb,acb,aAo,aco⟩):=(HAT.out.mono (fun k hk=>hk.elim (fun h=> .inl (.inl h)) fun h=>h.elim (fun h=> .inl (.inr h)) fun h=> .inr EE)).below hbn
  clear hbn HAT
  generalize(w3.alloc (.cells A1u 82))=w4 at*
  refine ED HF1 ?_ (HQ.out w4 HB24.out)
  repeat(first|((first|refine Dx ?_|refine Dy ?_);intro K hK;go_big_quiet_op;go_big_quiet_on)|((first|refine Dz ?_|refine EA ?_);simp only[Act.put,AB,AE,AF]))
  refine A0s ?_
  have y0:=P2.out.cell 0;have y1:=P2.out.cell 1;have y2:=P2.out.cell 2;have y3:=P2.out.cell 3;have y4:=P2.out.cell 4;have y5:=P2.out.cell 5
  have yf0:=P2.out.frozen 0;have yf1:=P2.out.frozen 1;have yf2:=P2.out.frozen 2;have yf3:=P2.out.frozen 3;have yf4:=P2.out.frozen 4;have yf5:=P2.out.frozen 5
  go_wp2_with fail
  clear y0 y1 y2 y3 y4 y5 yf0 yf1 yf2 yf3 yf4 yf5
  have HB25:Hid (Below w2.heap.size w2 ((((((w4.setCell ⟨w3.heap.size,0,none⟩ (.string an)).setCell ⟨w3.heap.size,1,none⟩ (.string atx)).setCell ⟨w3.heap.size,2,none⟩ (.string adt)).setCell ⟨w3.heap.size,3,none⟩ (.int .i64 (asf:Int))).setCell ⟨w3.heap.size,4,none⟩ (.slice aAb nab acb)).setCell ⟨w3.heap.size,5,none⟩ (.slice aAo nao aco))):=bel6 HB24.out hb2
  have P5:Hid (Blk ((((((w4.setCell ⟨w3.heap.size,0,none⟩ (.string an)).setCell ⟨w3.heap.size,1,none⟩ (.string atx)).setCell ⟨w3.heap.size,2,none⟩ (.string adt)).setCell ⟨w3.heap.size,3,none⟩ (.int .i64 (asf:Int))).setCell ⟨w3.heap.size,4,none⟩ (.slice aAb nab acb)).setCell ⟨w3.heap.size,5,none⟩ (.slice aAo nao aco)) w3.heap.size 82 #[.string an,.string atx,.string adt,.int .i64 (asf:Int),.slice aAb nab acb,.slice aAo nao aco]):=(((((P2.out.set_ 0 _).set_ 1 _).set_ 2 _).set_ 3 _).set_ 4 _).set_ 5 _
  have HP5:Hid (H3 ((((((w4.setCell ⟨w3.heap.size,0,none⟩ (.string an)).setCell ⟨w3.heap.size,1,none⟩ (.string atx)).setCell ⟨w3.heap.size,2,none⟩ (.string adt)).setCell ⟨w3.heap.size,3,none⟩ (.int .i64 (asf:Int))).setCell ⟨w3.heap.size,4,none⟩ (.slice aAb nab acb)).setCell ⟨w3.heap.size,5,none⟩ (.slice aAo nao aco)) w.heap.size (.slice (some ad) N c) ⟨xk,xn,xnm,xt,xA,xm,xc,xl⟩ (.slice none 0 0)):=HP4.out.six (p:=⟨w3.heap.size,0,none⟩) (show w.heap.size+1+1<w3.heap.size by omega)
  have HAT5:Hid (RcAt ((((((w4.setCell ⟨w3.heap.size,0,none⟩ (.string an)).setCell ⟨w3.heap.size,1,none⟩ (.string atx)).setCell ⟨w3.heap.size,2,none⟩ (.string adt)).setCell ⟨w3.heap.size,3,none⟩ (.int .i64 (asf:Int))).setCell ⟨w3.heap.size,4,none⟩ (.slice aAb nab acb)).setCell ⟨w3.heap.size,5,none⟩ (.slice aAo nao aco)) (fun k=>K k∨k=w.heap.size+1+1∨k=w3.heap.size) ⟨⟨an,atx,adt,asf,ab,ao⟩,aAb,acb,aAo,aco⟩):=setK (setK (setK (setK (setK (setK HAT4.out (.inr (.inr rfl)) fun k hk=>hk) (.inr (.inr rfl)) fun k hk=>hk) (.inr (.inr rfl)) fun k hk=>hk) (.inr (.inr rfl)) fun k hk=>hk) (.inr (.inr rfl)) fun k hk=>hk) (.inr (.inr rfl)) fun k hk=>hk
  clear P2 HP4 HAT4 HB24
  generalize((((((w4.setCell ⟨w3.heap.size,0,none⟩ (.string an)).setCell ⟨w3.heap.size,1,none⟩ (.string atx)).setCell ⟨w3.heap.size,2,none⟩ (.string adt)).setCell ⟨w3.heap.size,3,none⟩ (.int .i64 (asf:Int))).setCell ⟨w3.heap.size,4,none⟩ (.slice aAb nab acb)).setCell ⟨w3.heap.size,5,none⟩ (.slice aAo nao aco))=w5 at*
  exact C2Z
 ·go_wp2_with fail
  have hb2:w2.heap.size≤w2.heap.size:=AD _
  have P0:Hid (Blk (w2.alloc (.cells A1u 82)).drew w2.heap.size 82 A1u):=(Blk.new_ _ _ _).drew
  have HBW:Hid (Below w2.heap.size w2 (w2.alloc (.cells A1u 82)).drew):=((AI _ _).alloc (AD _) _).drew
  have hl3:w2.heap.size<(w2.alloc (.cells A1u 82)).drew.heap.size:=P0.out.lt
  generalize(w2.alloc (.cells A1u 82)).drew=w3 at*
  refine ED HF1 ?_ (HQ.out w3 HBW.out)
  repeat(first|((first|refine Dx ?_|refine Dy ?_);intro K hK;go_big_quiet_op;go_big_quiet_on)|((first|refine Dz ?_|refine EA ?_);simp only[Act.put,AB,AE,AF]))
  refine A0s ?_
  go_wp2_with fail
  have HBX:Hid (Below w.heap.size w w3):=HB2.out.trans (HBW.out.mono HB2.out.size)
  refine(HPG.out w3 (fun k=>K k∨k=w.heap.size+1+1∨k=w2.heap.size) HBX.out (fun k hk=>hk.elim .inl (fun h=> .inr EE)) (fun k hk=>hk.elim (fun h=>AO (HKK.out k h) HBX.out.size) (fun h=>h.elim (fun e=>by rw[e];omega) (fun e=>by rw[e];exact hl3)))).mono ?_
  rintro e w4 ⟨r',rfl,hs',hat',hb3⟩
  obtain⟨⟨an,atx,adt,asf,ab,ao⟩,aAb,acb,aAo,aco⟩:=r'
  simp only at hs'
  have HS:=AA hs'
  have HAT:=AA hat'
  obtain⟨nab,hnab⟩:∃nab,ab.length=nab:=⟨_,rfl⟩
  obtain⟨nao,hnao⟩:∃nao,ao.length=nao:=⟨_,rfl⟩
  have HNAB:=AA hnab
  have HNAO:=AA hnao
  have HBN:=AA (HBW.out.trans (hb3.mono HBW.out.size))
  have HB3:=AA hb3
  clear hb3 hs' hat'
  simp only
  rw[hnab,hnao]
  clear hnab hnao
  go_wp2_with fail
  refine ED HF1 ?_ (HQ.out w4 HBN.out)
  repeat(first|((first|refine Dx ?_|refine Dy ?_);intro K hK;go_big_quiet_op;go_big_quiet_on)|((first|refine Dz ?_|refine EA ?_);simp only[Act.put,AB,AE,AF]))
  have P2:Hid (Blk w4 w2.heap.size 82 A1u):=P0.out.below' HB3.out
  have HB24:=HBN
  have HP4:Hid (H3 w4 w.heap.size (.slice (some ad) N c) ⟨xk,xn,xnm,xt,xA,xm,xc,xl⟩ (.slice none 0 0)):=HP2.out.below HB24.out
  have HAT4:=HAT
  clear HAT P0
  refine A0s ?_
  have y0:=P2.out.cell 0;have y1:=P2.out.cell 1;have y2:=P2.out.cell 2;have y3:=P2.out.cell 3;have y4:=P2.out.cell 4;have y5:=P2.out.cell 5
  have yf0:=P2.out.frozen 0;have yf1:=P2.out.frozen 1;have yf2:=P2.out.frozen 2;have yf3:=P2.out.frozen 3;have yf4:=P2.out.frozen 4;have yf5:=P2.out.frozen 5
  go_wp2_with fail
  clear y0 y1 y2 y3 y4 y5 yf0 yf1 yf2 yf3 yf4 yf5
  have HB25:Hid (Below w2.heap.size w2 ((((((w4.setCell ⟨w2.heap.size,0,none⟩ (.string an)).setCell ⟨w2.heap.size,1,none⟩ (.string atx)).setCell ⟨w2.heap.size,2,none⟩ (.string adt)).setCell ⟨w2.heap.size,3,none⟩ (.int .i64 (asf:Int))).setCell ⟨w2.heap.size,4,none⟩ (.slice aAb nab acb)).setCell ⟨w2.heap.size,5,none⟩ (.slice aAo nao aco))):=bel6 HB24.out hb2
  have P5:Hid (Blk ((((((w4.setCell ⟨w2.heap.size,0,none⟩ (.string an)).setCell ⟨w2.heap.size,1,none⟩ (.string atx)).setCell ⟨w2.heap.size,2,none⟩ (.string adt)).setCell ⟨w2.heap.size,3,none⟩ (.int .i64 (asf:Int))).setCell ⟨w2.heap.size,4,none⟩ (.slice aAb nab acb)).setCell ⟨w2.heap.size,5,none⟩ (.slice aAo nao aco)) w2.heap.size 82 #[.string an,.string atx,.string adt,.int .i64 (asf:Int),.slice aAb nab acb,.slice aAo nao aco]):=(((((P2.out.set_ 0 _).set_ 1 _).set_ 2 _).set_ 3 _).set_ 4 _).set_ 5 _
  have HP5:Hid (H3 ((((((w4.setCell ⟨w2.heap.size,0,none⟩ (.string an)).setCell ⟨w2.heap.size,1,none⟩ (.string atx)).setCell ⟨w2.heap.size,2,none⟩ (.string adt)).setCell ⟨w2.heap.size,3,none⟩ (.int .i64 (asf:Int))).setCell ⟨w2.heap.size,4,none⟩ (.slice aAb nab acb)).setCell ⟨w2.heap.size,5,none⟩ (.slice aAo nao aco)) w.heap.size (.slice (some ad) N c) ⟨xk,xn,xnm,xt,xA,xm,xc,xl⟩ (.slice none 0 0)):=HP4.out.six (p:=⟨w2.heap.size,0,none⟩) (show w.heap.size+1+1<w2.heap.size by omega)
  have HAT5:Hid (RcAt ((((((w4.setCell ⟨w2.heap.size,0,none⟩ (.string an)).setCell ⟨w2.heap.size,1,none⟩ (.string atx)).setCell ⟨w2.heap.size,2,none⟩ (.string adt)).setCell ⟨w2.heap.size,3,none⟩ (.int .i64 (asf:Int))).setCell ⟨w2.heap.size,4,none⟩ (.slice aAb nab acb)).setCell ⟨w2.heap.size,5,none⟩ (.slice aAo nao aco)) (fun k=>K k∨k=w.heap.size+1+1∨k=w2.heap.size) ⟨⟨an,atx,adt,asf,ab,ao⟩,aAb,acb,aAo,aco⟩):=setK (setK (setK (setK (setK (setK HAT4.out (.inr (.inr rfl)) fun k hk=>hk) (.inr (.inr rfl)) fun k hk=>hk) (.inr (.inr rfl)) fun k hk=>hk) (.inr (.inr rfl)) fun k hk=>hk) (.inr (.inr rfl)) fun k hk=>hk) (.inr (.inr rfl)) fun k hk=>hk
  clear P2 HP4 HAT4 HB24
  generalize((((((w4.setCell ⟨w2.heap.size,0,none⟩ (.string an)).setCell ⟨w2.heap.size,1,none⟩ (.string atx)).setCell ⟨w2.heap.size,2,none⟩ (.string adt)).setCell ⟨w2.heap.size,3,none⟩ (.int .i64 (asf:Int))).setCell ⟨w2.heap.size,4,none⟩ (.slice aAb nab acb)).setCell ⟨w2.heap.size,5,none⟩ (.slice aAo nao aco))=w5 at*
  exact C2Z
theorem A2l(A:Option Addr)(c:Nat)(rs:List Rc)(x:Dd)(K:Nat→Prop)(w:World)(hf:RoOk w K A c rs x):Calls Tryz.prog 9 #[.agg #[.slice A rs.length c],x.val,.func (.func 10) #[] #[]] w (A1v w K rs x):=by
 by_cases h0:x.kind<1∨10<x.kind
 ·exact B2x A c rs x K w hf h0
 cases hn:A0K x.name with
 |false=>exact B2y A c rs x K w hf EE EE hn
 |true=>
  by_cases h1:x.kind=1
  ·exact B6T A c rs x K w hf h1 hn
  by_cases hi:fnd x.name (rs.map Rc.s)<(rs.map Rc.s).length
  ·have hil:fnd x.name (rs.map Rc.s)<rs.length:=by rwa[AW] at hi
   by_cases h8:x.kind=8
   ·exact B4P A c rs x K w hf h8 hn _ rfl hil
   by_cases h9:x.kind=9
   ·exact B4Q A c rs x K w hf h9 hn _ rfl hil
   exact B4R A c rs x K w hf EE EE h8 h9 hn _ rfl hil
  ·exact B4O A c rs x K w hf EE EE hn hi
theorem HsAt.keep{w w':World}{base gh g:Nat}{v:Value}{ps:List Pc}(h:HsAt w base gh v ps)(hc:Chg w w' (fun k=>k=g))(hg:¬HK gh v ps g):HsAt w' base gh v ps:=
 ⟨h.blk.chgH hc fun e=>hg (.inl e.symm),h.lo,h.row.chg hc fun _ hk e=>hg (e▸.inr (.inl hk)),fun p hp=>(h.pg p hp).chg hc fun _ hk e=>hg (e▸.inr (.inr ⟨p,hp,hk⟩)),h.dis⟩
section
variable {w w':World} {base gh gr:Nat} {v:Value} {ps:List Pc} {A:Option Addr} {c:Nat} {rs:List Rc}
end
end Go.Proofs.YtplgghjdidmcfaaGreatDoor
