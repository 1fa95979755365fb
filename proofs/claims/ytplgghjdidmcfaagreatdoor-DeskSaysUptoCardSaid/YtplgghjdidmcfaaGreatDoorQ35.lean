/- Written anew, smaller, by a program of our own out of our texts. No condition of our own. -/
import Derived.Test.YtplgghjdidmcfaaGreatDoorQ34
set_option maxRecDepth 100000
set_option maxHeartbeats 16000000
set_option linter.all false
namespace Go.Proofs.YtplgghjdidmcfaaGreatDoor
open Go.RowKit
theorem C0m{P:Prop}(h:P:=by
 go_wp2_with fail
 have hB2:Below w.heap.size w ((x1.setCell ⟨w.heap.size,4,none⟩ (.slice (some ⟨x1.heap.size,0,none⟩) 1 1)).alloc (.cells #[.int .i64 V2,.int .i64 V3,.string ⟨#[]⟩] 95)):=(hW1.setCell (AD _) _).alloc (by simp;omega) _
 have hBX:Blk ((x1.setCell ⟨w.heap.size,4,none⟩ (.slice (some ⟨x1.heap.size,0,none⟩) 1 1)).alloc (.cells #[.int .i64 V2,.int .i64 V3,.string ⟨#[]⟩] 95)) w.heap.size 32 #[.int .i64 2,.int .i64 0,.string X1,.string ⟨#[]⟩,.slice (some ⟨x1.heap.size,0,none⟩) 1 1]:=(hX1.set_ 4 _).alloc _
 have hsz:(x1.setCell ⟨w.heap.size,4,none⟩ (.slice (some ⟨x1.heap.size,0,none⟩) 1 1)).heap.size=x1.heap.size:=by simp
 have hfs:((x1.setCell ⟨w.heap.size,4,none⟩ (.slice (some ⟨x1.heap.size,0,none⟩) 1 1)).alloc (.cells #[.int .i64 V2,.int .i64 V3,.string ⟨#[]⟩] 95)).heap.size=x1.heap.size+1:=by simp
 have hrd:Rd ((x1.setCell ⟨w.heap.size,4,none⟩ (.slice (some ⟨x1.heap.size,0,none⟩) 1 1)).alloc (.cells #[.int .i64 V2,.int .i64 V3,.string ⟨#[]⟩] 95)) (x1.heap.size+1) 3 (some ⟨x1.heap.size,0,none⟩) 1 [.int .i64 V2,.int .i64 V3,.string ⟨#[]⟩]:=by
  have:=Rd.new_ (x1.setCell ⟨w.heap.size,4,none⟩ (.slice (some ⟨x1.heap.size,0,none⟩) 1 1)) #[.int .i64 V2,.int .i64 V3,.string ⟨#[]⟩] 95 (B:=x1.heap.size+1) (size:=3) (n:=1) (by rw[hsz];omega) rfl
  rw[hsz] at this
  exact this
 have hx1s:w.heap.size≤x1.heap.size:=hW1.size
 clear z2 z3 z4 z5 z6 z7 hgl hgx hE1 hX1 hW1 hsz
 generalize(x1.setCell ⟨w.heap.size,4,none⟩ (.slice (some ⟨x1.heap.size,0,none⟩) 1 1)).alloc (.cells #[.int .i64 V2,.int .i64 V3,.string ⟨#[]⟩] 95)=w2 at*
 have hg0:w.heap.size≤w.heap.size:=AD _
 have hok:∀W,Below w2.heap.size w2 W→DdOk W (HK gh v ps) ⟨2,0,X1,⟨#[]⟩,some ⟨x1.heap.size,0,none⟩,1,1,[⟨V2,V3,[]⟩]⟩:=fun W hW=>by
  exact C2E
 clear hrd
 have HB2:=AA hB2
 have HBX:=AA hBX
 have Hw.heap.size:=AA hg0
 have HD2:=AA (HD.out.below hB2)
 have HOK:=AA hok
 clear hB2 hBX hg0 hok
 have e0:=HD2.out.b.cell0
 have d0:=HBX.out.cell 0
 have d1:=HBX.out.cell 1
 have d2:=HBX.out.cell 2
 have d3:=HBX.out.cell 3
 have d4:=HBX.out.cell 4
 obtain⟨F1,HF1,hcell10,hcell11,hcell12,hcell13,hcell14,hcell15⟩:=cells6 ⟨gd,0,none⟩ (.pointer (some ⟨gh,0,none⟩)) ⟨w.heap.size,0,none⟩ (.int .i64 2) ⟨w.heap.size,1,none⟩ (.int .i64 0) ⟨w.heap.size,2,none⟩ (.string X1) ⟨w.heap.size,3,none⟩ (.string ⟨#[]⟩) ⟨w.heap.size,4,none⟩ (.slice (some ⟨x1.heap.size,0,none⟩) 1 1)
 refine EB [(0,true),(1,true),(2,true),(3,true),(4,true),(5,false),(6,true),(7,true),(8,true),(9,true),(10,true)] HF1 ?_
 intro hne1
 simp only[A0i,AT,AP,AR]
 repeat(first|((first|refine Dt ?_|refine Du ?_);intro K hK;go_big_quiet_op;go_big_quiet_on)|((first|refine Dv ?_|refine Dw ?_);simp only[Act.put,AB,AE,AF]))
 refine A0a ?_
 go_wp2_with fail
 have hbD:Below w2.heap.size w2 w2.drew:=(AI _ _).drew
 have hdo:=A2j ⟨2,0,X1,⟨#[]⟩,some ⟨x1.heap.size,0,none⟩,1,1,[⟨V2,V3,[]⟩]⟩ base gh v ps w2.drew (HD2.out.h.below hbD) HD2.out.o (AQ HD2.out.s hbD.size) (HOK.out _ hbD) (A0c HT.out (HB2.out.drew))
 unfold A0Z Dd.val at hdo
 simp only at hdo
 refine hdo.mono ?_
 clear hdo
 rintro e w3 ⟨rfl,hto⟩
 obtain⟨v3,ps3,hd3,_,_⟩:=(HD2.out.below hbD).to hto (HD2.out.o.step _)
 have hbx3:=(HBX.out.drew).chgH hto.chg (A2d HD.out.h (by have:=Hw.heap.size.out;omega))
 have HTO:=AA (HsTo.pre (HB2.out.drew) hto)
 clear hto
 have e0':=hd3.b.cell0
 have d0':=hbx3.cell 0;have d1':=hbx3.cell 1;have d2':=hbx3.cell 2;have d3':=hbx3.cell 3;have d4':=hbx3.cell 4
 clear hd3 hbx3 hbD
 go_wp2_with fail
 refine ED HF1 ?_ ⟨e0',d0',d1',d2',d3',d4'⟩
 repeat(first|((first|refine Dt ?_|refine Du ?_);intro K hK;go_big_quiet_op;go_big_quiet_on)|((first|refine Dv ?_|refine Dw ?_);simp only[Act.put,AB,AE,AF]))
 refine A0g ?_
 clear HF1 e0 d0 d1 d2 d3 d4 e0' d0' d1' d2' d3' d4' hcell10 hcell11 hcell12 hcell13 hcell14 hcell15 hne1
 have HA1:=AA (A2k (P:=ps.map Pc.s) (x:=⟨2,0,X1,⟨#[]⟩,some ⟨x1.heap.size,0,none⟩,1,1,[⟨V2,V3,[]⟩]⟩))
 have HA2:=AA (A2P (P:=ps.map Pc.s) (x:=⟨2,0,X1,⟨#[]⟩,some ⟨x1.heap.size,0,none⟩,1,1,[⟨V2,V3,[]⟩]⟩))
 have HTL:=AA (A1o HD.out.o ⟨2,0,X1,⟨#[]⟩,some ⟨x1.heap.size,0,none⟩,1,1,[⟨V2,V3,[]⟩]⟩)
 generalize hsE (ps.map Pc.s) ⟨2,0,X1,⟨#[]⟩,some ⟨x1.heap.size,0,none⟩,1,1,[⟨V2,V3,[]⟩]⟩=E at*
 generalize hsT (ps.map Pc.s) ⟨2,0,X1,⟨#[]⟩,some ⟨x1.heap.size,0,none⟩,1,1,[⟨V2,V3,[]⟩]⟩=T at*
 exact C2y
 ):P:=h
theorem C0o{P:Prop}(h:P:=by
 have hg0:w.heap.size≤w.heap.size:=AD _
 have hok:∀W,Below w2.heap.size w2 W→DdOk W (HK gh v ps) ⟨2,0,X1,⟨#[]⟩,some ⟨x1.heap.size,0,none⟩,1,1,[⟨V2,V3,i⟩]⟩:=fun W hW=>by
  exact C2E
 clear hrd
 have HB2:=AA hB2
 have HBX:=AA hBX
 have Hw.heap.size:=AA hg0
 have HD2:=AA (HD.out.below hB2)
 have HOK:=AA hok
 clear hB2 hBX hg0 hok
 have e0:=HD2.out.b.cell0
 have d0:=HBX.out.cell 0
 have d1:=HBX.out.cell 1
 have d2:=HBX.out.cell 2
 have d3:=HBX.out.cell 3
 have d4:=HBX.out.cell 4
 obtain⟨F1,HF1,hcell10,hcell11,hcell12,hcell13,hcell14,hcell15⟩:=cells6 ⟨gd,0,none⟩ (.pointer (some ⟨gh,0,none⟩)) ⟨w.heap.size,0,none⟩ (.int .i64 2) ⟨w.heap.size,1,none⟩ (.int .i64 0) ⟨w.heap.size,2,none⟩ (.string X1) ⟨w.heap.size,3,none⟩ (.string ⟨#[]⟩) ⟨w.heap.size,4,none⟩ (.slice (some ⟨x1.heap.size,0,none⟩) 1 1)
 refine EB [(0,true),(1,true),(2,true),(3,true),(4,true),(5,false),(6,true),(7,true),(8,true),(9,true),(10,true)] HF1 ?_
 intro hne1
 simp only[A0i,AT,AP,AR]
 repeat(first|((first|refine Dt ?_|refine Du ?_);intro K hK;go_big_quiet_op;go_big_quiet_on)|((first|refine Dv ?_|refine Dw ?_);simp only[Act.put,AB,AE,AF]))
 refine A0a ?_
 go_wp2_with fail
 have hbD:Below w2.heap.size w2 w2.drew:=(AI _ _).drew
 have hdo:=A2j ⟨2,0,X1,⟨#[]⟩,some ⟨x1.heap.size,0,none⟩,1,1,[⟨V2,V3,i⟩]⟩ base gh v ps w2.drew (HD2.out.h.below hbD) HD2.out.o (AQ HD2.out.s hbD.size) (HOK.out _ hbD) (A0c HT.out (HB2.out.drew))
 unfold A0Z Dd.val at hdo
 simp only at hdo
 refine hdo.mono ?_
 clear hdo
 rintro e w3 ⟨rfl,hto⟩
 obtain⟨v3,ps3,hd3,_,_⟩:=(HD2.out.below hbD).to hto (HD2.out.o.step _)
 have hbx3:=(HBX.out.drew).chgH hto.chg (A2d HD.out.h (by have:=Hw.heap.size.out;omega))
 have HTO:=AA (HsTo.pre (HB2.out.drew) hto)
 clear hto
 have e0':=hd3.b.cell0
 have d0':=hbx3.cell 0;have d1':=hbx3.cell 1;have d2':=hbx3.cell 2;have d3':=hbx3.cell 3;have d4':=hbx3.cell 4
 clear hd3 hbx3 hbD
 go_wp2_with fail
 refine ED HF1 ?_ ⟨e0',d0',d1',d2',d3',d4'⟩
 repeat(first|((first|refine Dt ?_|refine Du ?_);intro K hK;go_big_quiet_op;go_big_quiet_on)|((first|refine Dv ?_|refine Dw ?_);simp only[Act.put,AB,AE,AF]))
 refine A0g ?_
 clear HF1 e0 d0 d1 d2 d3 d4 e0' d0' d1' d2' d3' d4' hcell10 hcell11 hcell12 hcell13 hcell14 hcell15 hne1
 have HA1:=AA (A2k (P:=ps.map Pc.s) (x:=⟨2,0,X1,⟨#[]⟩,some ⟨x1.heap.size,0,none⟩,1,1,[⟨V2,V3,i⟩]⟩))
 have HA2:=AA (A2P (P:=ps.map Pc.s) (x:=⟨2,0,X1,⟨#[]⟩,some ⟨x1.heap.size,0,none⟩,1,1,[⟨V2,V3,i⟩]⟩))
 have HTL:=AA (A1o HD.out.o ⟨2,0,X1,⟨#[]⟩,some ⟨x1.heap.size,0,none⟩,1,1,[⟨V2,V3,i⟩]⟩)
 generalize hsE (ps.map Pc.s) ⟨2,0,X1,⟨#[]⟩,some ⟨x1.heap.size,0,none⟩,1,1,[⟨V2,V3,i⟩]⟩=E at*
 generalize hsT (ps.map Pc.s) ⟨2,0,X1,⟨#[]⟩,some ⟨x1.heap.size,0,none⟩,1,1,[⟨V2,V3,i⟩]⟩=T at*
 exact C2y
 ):P:=h
theorem C0r{P:Prop}(h:P:=by
 generalize S a=X1 at*
 generalize S t=X2 at*
 generalize S u=X3 at*
 have HV2:Hid (A1U t= .returned (.int .i64 (numV t:Int))):=by unfold Hid A1U;rw[if_pos hd]
 rw[HV2.out] at HN2
 clear HV2
 rw[A3D hd3,HU.out] at HN3
 clear htl hul hd hd3
 go_enter Tryz.func96,Tryz.ntmps96
 go_wp2_with fail
 have hB1:Below w.heap.size w (w.alloc (.cells #[.int .i64 2,.int .i64 0,.string X1,.string ⟨#[]⟩,.slice none 0 0] 32)):=Ds
 have hBX1:Blk (w.alloc (.cells #[.int .i64 2,.int .i64 0,.string X1,.string ⟨#[]⟩,.slice none 0 0] 32)) w.heap.size 32 #[.int .i64 2,.int .i64 0,.string X1,.string ⟨#[]⟩,.slice none 0 0]:=Blk.new_ _ _ _
 generalize w.alloc (.cells #[.int .i64 2,.int .i64 0,.string X1,.string ⟨#[]⟩,.slice none 0 0] 32)=w1 at*
 have y2:=(hB1.cell (p:=⟨b,o+2,none⟩) hbw).trans c2
 have y3:=(hB1.cell (p:=⟨b,o+3,none⟩) hbw).trans c3
 obtain⟨F1,HF1,hcell10,hcell11⟩:=cells2 ⟨b,o+2,none⟩ (.string X2) ⟨b,o+3,none⟩ (.string X3)
 refine EC (.op 0 true (.op 1 true (.op 2 true (.op 4 true (.op 5 true (.op 6 true (.fork 3 9 (.fork 7 9 (.op 8 true (.op 9 false .nil)) (.op 7 false (.op 8 true .nil))) (.op 3 false (.op 7 false (.op 8 true .nil)))))))))) 10 10 [] HF1 ?_
 intro hne1
 simp only[A1L,A2I,AT,AP,AR]
 repeat(first|((first|refine Dx ?_|refine Dy ?_);intro K hK;go_big_quiet_op;go_big_quiet_on)|((first|refine Dz ?_|refine EA ?_);simp only[Act.put,AB,AE,AF]))
 have hB1:=hB1.drew
 have hBX1:=hBX1.drew
 refine A2n ?_ ?_
 ·skip
  go_wp2_with fail
  refine(HN2.out _).mono ?_
  rintro e a ⟨rfl,hba⟩
  have hBa:=hB1.trans (hba.mono hB1.size)
  have hBXa:=hBX1.below' hba
  have y2a:=(hBa.cell (p:=⟨b,o+2,none⟩) hbw).trans c2
  have y3a:=(hBa.cell (p:=⟨b,o+3,none⟩) hbw).trans c3
  go_wp2_with fail
  refine ED HF1 ?_ ⟨y2a,y3a⟩
  repeat(first|((first|refine Dx ?_|refine Dy ?_);intro K hK;go_big_quiet_op;go_big_quiet_on)|((first|refine Dz ?_|refine EA ?_);simp only[Act.put,AB,AE,AF]))
  refine A2n ?_ ?_
  ·skip
   exact C2K
  ·skip
   go_wp2_with fail
   have hBp:Below w.heap.size w (a.alloc (.cells #[.int .i64 0,.int .i64 0,.string ⟨#[]⟩] 95)):=hBa.alloc hBa.size _
   have hBXp:Blk (a.alloc (.cells #[.int .i64 0,.int .i64 0,.string ⟨#[]⟩] 95)) w.heap.size 32 #[.int .i64 2,.int .i64 0,.string X1,.string ⟨#[]⟩,.slice none 0 0]:=hBXa.alloc (.cells #[.int .i64 0,.int .i64 0,.string ⟨#[]⟩] 95)
   have hBEp:Blk (a.alloc (.cells #[.int .i64 0,.int .i64 0,.string ⟨#[]⟩] 95)) a.heap.size 95 #[.int .i64 0,.int .i64 0,.string ⟨#[]⟩]:=Blk.new_ a _ _
   have hGEp:w.heap.size≤a.heap.size:=hBa.size
   generalize(a.alloc (.cells #[.int .i64 0,.int .i64 0,.string ⟨#[]⟩] 95))=p at*
   have y2p:=(hBp.cell (p:=⟨b,o+2,none⟩) hbw).trans c2
   have y3p:=(hBp.cell (p:=⟨b,o+3,none⟩) hbw).trans c3
   refine ED HF1 ?_ ⟨y2p,y3p⟩
   repeat(first|((first|refine Dx ?_|refine Dy ?_);intro K hK;go_big_quiet_op;go_big_quiet_on)|((first|refine Dz ?_|refine EA ?_);simp only[Act.put,AB,AE,AF]))
   refine A0s ?_
   go_wp2_with fail
   refine(HN3.out _).mono ?_
   rintro e q ⟨rfl,hbq⟩
   have hBq:=hBp.trans (hbq.mono hBp.size)
   go_wp2_with fail
   exact⟨rfl,rfl,hBq⟩
 ·skip
  go_wp2_with fail
  have hBp:Below w.heap.size w (w1.alloc (.cells #[.int .i64 0,.int .i64 0,.string ⟨#[]⟩] 95)).drew:=hB1.alloc hB1.size _
  have hBXp:Blk (w1.alloc (.cells #[.int .i64 0,.int .i64 0,.string ⟨#[]⟩] 95)).drew w.heap.size 32 #[.int .i64 2,.int .i64 0,.string X1,.string ⟨#[]⟩,.slice none 0 0]:=hBX1.alloc (.cells #[.int .i64 0,.int .i64 0,.string ⟨#[]⟩] 95)
  have hBEp:Blk (w1.alloc (.cells #[.int .i64 0,.int .i64 0,.string ⟨#[]⟩] 95)).drew w1.heap.size 95 #[.int .i64 0,.int .i64 0,.string ⟨#[]⟩]:=Blk.new_ w1 _ _
  have hGEp:w.heap.size≤w1.heap.size:=hB1.size
  generalize(w1.alloc (.cells #[.int .i64 0,.int .i64 0,.string ⟨#[]⟩] 95)).drew=p at*
  have y2p:=(hBp.cell (p:=⟨b,o+2,none⟩) hbw).trans c2
  have y3p:=(hBp.cell (p:=⟨b,o+3,none⟩) hbw).trans c3
  refine ED HF1 ?_ ⟨y2p,y3p⟩
  repeat(first|((first|refine Dx ?_|refine Dy ?_);intro K hK;go_big_quiet_op;go_big_quiet_on)|((first|refine Dz ?_|refine EA ?_);simp only[Act.put,AB,AE,AF]))
  refine A0s ?_
  go_wp2_with fail
  refine(HN2.out _).mono ?_
  rintro e a ⟨rfl,hba⟩
  have hBa:=hBp.trans (hba.mono hBp.size)
  have hBXa:=hBXp.below' hba
  have y2a:=(hBa.cell (p:=⟨b,o+2,none⟩) hbw).trans c2
  have y3a:=(hBa.cell (p:=⟨b,o+3,none⟩) hbw).trans c3
  go_wp2_with fail
  refine ED HF1 ?_ ⟨y2a,y3a⟩
  repeat(first|((first|refine Dx ?_|refine Dy ?_);intro K hK;go_big_quiet_op;go_big_quiet_on)|((first|refine Dz ?_|refine EA ?_);simp only[Act.put,AB,AE,AF]))
  refine A0s ?_
  exact C2K
 ):P:=h
theorem C0A{P:Prop}(h:P:=by
 go_wp2_with fail
 by_cases hE:E=0
 ·subst hE
  refine(A5j _).mono ?_
  rintro e w4 ⟨rfl,rfl⟩
  have htl:=HTL.out
  clear HA1
  go_wp2_with fail
  (apply bodyPost_ret;(simp[results,Tryz.results96,go_sem];rfl);rfl)
  exact⟨(HA2.out (by first|trivial|rfl) (by first|trivial|exact EF)).symm,HTO.out⟩
 ·exact C2L
 ):P:=h
theorem C0B{P:Prop}(h:P:=by
 generalize S a=X1 at*
 generalize S t=X2 at*
 generalize S u=X3 at*
 rw[A3D hd,HU.out] at HN2
 clear htl hul hd
 go_enter Tryz.func96,Tryz.ntmps96
 go_wp2_with fail
 have hB1:Below w.heap.size w (w.alloc (.cells #[.int .i64 2,.int .i64 0,.string X1,.string ⟨#[]⟩,.slice none 0 0] 32)):=Ds
 have hBX1:Blk (w.alloc (.cells #[.int .i64 2,.int .i64 0,.string X1,.string ⟨#[]⟩,.slice none 0 0] 32)) w.heap.size 32 #[.int .i64 2,.int .i64 0,.string X1,.string ⟨#[]⟩,.slice none 0 0]:=Blk.new_ _ _ _
 generalize w.alloc (.cells #[.int .i64 2,.int .i64 0,.string X1,.string ⟨#[]⟩,.slice none 0 0] 32)=w1 at*
 have y2:=(hB1.cell (p:=⟨b,o+2,none⟩) hbw).trans c2
 have y3:=(hB1.cell (p:=⟨b,o+3,none⟩) hbw).trans c3
 obtain⟨F1,HF1,hcell10,hcell11⟩:=cells2 ⟨b,o+2,none⟩ (.string X2) ⟨b,o+3,none⟩ (.string X3)
 refine EC (.op 0 true (.op 1 true (.op 2 true (.op 4 true (.op 5 true (.op 6 true (.fork 3 9 (.fork 7 9 (.op 8 true (.op 9 false .nil)) (.op 7 false (.op 8 true .nil))) (.op 3 false (.op 7 false (.op 8 true .nil)))))))))) 10 10 [] HF1 ?_
 intro hne1
 simp only[A1L,A2I,AT,AP,AR]
 repeat(first|((first|refine Dx ?_|refine Dy ?_);intro K hK;go_big_quiet_op;go_big_quiet_on)|((first|refine Dz ?_|refine EA ?_);simp only[Act.put,AB,AE,AF]))
 have hB1:=hB1.drew
 have hBX1:=hBX1.drew
 refine A2n ?_ ?_
 ·skip
  go_wp2_with fail
  refine(HN2.out _).mono ?_
  rintro e a ⟨rfl,hba⟩
  have hBa:=hB1.trans (hba.mono hB1.size)
  go_wp2_with fail
  exact⟨rfl,rfl,hBa⟩
 ·skip
  go_wp2_with fail
  have hBp:Below w.heap.size w (w1.alloc (.cells #[.int .i64 0,.int .i64 0,.string ⟨#[]⟩] 95)).drew:=hB1.alloc hB1.size _
  have hBXp:Blk (w1.alloc (.cells #[.int .i64 0,.int .i64 0,.string ⟨#[]⟩] 95)).drew w.heap.size 32 #[.int .i64 2,.int .i64 0,.string X1,.string ⟨#[]⟩,.slice none 0 0]:=hBX1.alloc (.cells #[.int .i64 0,.int .i64 0,.string ⟨#[]⟩] 95)
  have hBEp:Blk (w1.alloc (.cells #[.int .i64 0,.int .i64 0,.string ⟨#[]⟩] 95)).drew w1.heap.size 95 #[.int .i64 0,.int .i64 0,.string ⟨#[]⟩]:=Blk.new_ w1 _ _
  have hGEp:w.heap.size≤w1.heap.size:=hB1.size
  generalize(w1.alloc (.cells #[.int .i64 0,.int .i64 0,.string ⟨#[]⟩] 95)).drew=p at*
  have y2p:=(hBp.cell (p:=⟨b,o+2,none⟩) hbw).trans c2
  have y3p:=(hBp.cell (p:=⟨b,o+3,none⟩) hbw).trans c3
  refine ED HF1 ?_ ⟨y2p,y3p⟩
  repeat(first|((first|refine Dx ?_|refine Dy ?_);intro K hK;go_big_quiet_op;go_big_quiet_on)|((first|refine Dz ?_|refine EA ?_);simp only[Act.put,AB,AE,AF]))
  refine A0s ?_
  go_wp2_with fail
  refine(HN2.out _).mono ?_
  rintro e a ⟨rfl,hba⟩
  have hBa:=hBp.trans (hba.mono hBp.size)
  go_wp2_with fail
  exact⟨rfl,rfl,hBa⟩
 ):P:=h
theorem C1J{P:Prop}(h:P:=by
 refine(HN.out _).mono ?_
 rintro e w1' ⟨rfl,hbn⟩
 have hB1':=hB1.trans (hbn.mono hB1.size)
 go_wp2_with fail
 exact⟨rfl,rfl,hB1'⟩
 ):P:=h
theorem C2y{P:Prop}(h:P:=by
 go_wp2_with fail
 by_cases hE:E=0
 ·subst hE
  refine(A5j _).mono ?_
  rintro e w4 ⟨rfl,rfl⟩
  have htl:=HTL.out
  clear HA1
  go_wp2_with fail
  (apply bodyPost_ret;(simp[results,Tryz.results96,go_sem];rfl);rfl)
  exact⟨_,(HA2.out (by first|trivial|rfl) (by first|trivial|exact EF)).symm,HTO.out⟩
 ·refine(A1f E hE _).mono ?_
  rintro e w4 ⟨rfl,rfl⟩
  clear HA2 HTL
  go_wp2_with fail
  exact⟨rfl,_,(HA1.out hE).symm,HTO.out⟩
 ):P:=h
theorem C2E{P:Prop}(h:P:=by
 refine⟨?_, ?_, ?_, ?_, ?_⟩
 ·show X1.size≤_;omega
 ·exact AS _
 ·show 1≤_;omega
 ·exact(hrd.below (by rw[←hfs];exact hW)).more (by have:=hW.size;omega)
 ·intro _ ad e hk
  obtain rfl:=Aw e
  exact A2d HD.out.h hx1s hk
 ):P:=h
theorem C2K{P:Prop}(h:P:=by
 go_wp2_with fail
 refine(HN3.out _).mono ?_
 rintro e q ⟨rfl,hbq⟩
 have hBq:=hBa.trans (hbq.mono hBa.size)
 go_wp2_with fail
 exact⟨rfl,rfl,hBq⟩
 ):P:=h
theorem C2L{P:Prop}(h:P:=by
 refine(A1f E hE _).mono ?_
 rintro e w4 ⟨rfl,rfl⟩
 clear HA2 HTL
 go_wp2_with fail
 exact⟨rfl,(HA1.out hE).symm,HTO.out⟩
 ):P:=h
theorem A2L{w:World}{K:Nat→Prop}{k z:Int}{nm tx:ByteArray}(h1:nm.size≤4096)(h2:tx.size≤4096):DdOk w K ⟨k,z,nm,tx,none,0,0,[]⟩:=
 ⟨by show nm.size≤_;omega,by show tx.size≤_;omega,AS _,Rd.nil_,fun h=>absurd h (Nat.lt_irrefl _)⟩
theorem A3q:(⟨#[]⟩:ByteArray).size≤4096:=AS _
theorem B8p(a t:List UInt8)(b o c base gh gd:Nat)(v:Value)(ps:List Pc)(w:World)(hD:DkAt w base gh gd v ps)(hbw:b<w.heap.size)(ha:a.length≤4096)(htl:t.length≤4096)(ht:TabI w)(c0:w.cell? ⟨b,o,none⟩=some (.string (S kNew)))(c1:w.cell? ⟨b,o+1,none⟩=some (.string (S a)))(c2:w.cell? ⟨b,o+2,none⟩=some (.string (S t))):
 Calls Tryz.prog 96 #[.pointer (some ⟨gd,0,none⟩),.slice (some ⟨b,o,none⟩) 3 c] w (A3h w base gh v ps ⟨1,0,S a,S t,none,0,0,[]⟩):=by
 have q1:((S kNew).toList==[110,101,119])=true:=by rw[eqk];decide
 have za:(S a).size≤4096:=by rw[A0b];exact ha
 have zt:(S t).size≤4096:=by rw[A0b];exact htl
 generalize S kNew=X0 at*
 generalize S a=X1 at*
 generalize S t=X2 at*
 have HD:=AA hD
 have HT:=AA ht
 clear hD ht ha htl
 go_enter Tryz.func96,Tryz.ntmps96
 go_wp2_with fail
 have hB2:Below w.heap.size w (w.alloc (.cells #[.int .i64 1,.int .i64 0,.string X1,.string X2,.slice none 0 0] 32)):=Ds
 have hBX:Blk (w.alloc (.cells #[.int .i64 1,.int .i64 0,.string X1,.string X2,.slice none 0 0] 32)) w.heap.size 32 #[.int .i64 1,.int .i64 0,.string X1,.string X2,.slice none 0 0]:=Blk.new_ _ _ _
 have hg0:w.heap.size≤w.heap.size:=AD _
 generalize w.alloc (.cells #[.int .i64 1,.int .i64 0,.string X1,.string X2,.slice none 0 0] 32)=w2 at*
 have hok:∀W,Below w2.heap.size w2 W→DdOk W (HK gh v ps) ⟨1,0,X1,X2,none,0,0,[]⟩:=fun _ _=>A2L za zt
 have HB2:=AA hB2
 have HBX:=AA hBX
 have Hw.heap.size:=AA hg0
 have HD2:=AA (HD.out.below hB2)
 have HOK:=AA hok
 clear hB2 hBX hg0 hok
 have e0:=HD2.out.b.cell0
 have d0:=HBX.out.cell 0
 have d1:=HBX.out.cell 1
 have d2:=HBX.out.cell 2
 have d3:=HBX.out.cell 3
 have d4:=HBX.out.cell 4
 obtain⟨F1,HF1,hcell10,hcell11,hcell12,hcell13,hcell14,hcell15⟩:=cells6 ⟨gd,0,none⟩ (.pointer (some ⟨gh,0,none⟩)) ⟨w.heap.size,0,none⟩ (.int .i64 1) ⟨w.heap.size,1,none⟩ (.int .i64 0) ⟨w.heap.size,2,none⟩ (.string X1) ⟨w.heap.size,3,none⟩ (.string X2) ⟨w.heap.size,4,none⟩ (.slice none 0 0)
 refine EB [(0,true),(1,true),(2,true),(3,true),(4,true),(5,false),(6,true),(7,true),(8,true),(9,true),(10,true)] HF1 ?_
 intro hne1
 simp only[A0i,AT,AP,AR]
 repeat(first|((first|refine Dt ?_|refine Du ?_);intro K hK;go_big_quiet_op;go_big_quiet_on)|((first|refine Dv ?_|refine Dw ?_);simp only[Act.put,AB,AE,AF]))
 refine A0a ?_
 go_wp2_with fail
 have hbD:Below w2.heap.size w2 w2.drew:=(AI _ _).drew
 have hdo:=A2j ⟨1,0,X1,X2,none,0,0,[]⟩ base gh v ps w2.drew (HD2.out.h.below hbD) HD2.out.o (AQ HD2.out.s hbD.size) (HOK.out _ hbD) (A0c HT.out (HB2.out.drew))
 unfold A0Z Dd.val at hdo
 simp only at hdo
 refine hdo.mono ?_
 clear hdo
 rintro e w3 ⟨rfl,hto⟩
 obtain⟨v3,ps3,hd3,_,_⟩:=(HD2.out.below hbD).to hto (HD2.out.o.step _)
 have hbx3:=(HBX.out.drew).chgH hto.chg (A2d HD.out.h (by have:=Hw.heap.size.out;omega))
 have HTO:=AA (HsTo.pre (HB2.out.drew) hto)
 clear hto
 have e0':=hd3.b.cell0
 have d0':=hbx3.cell 0;have d1':=hbx3.cell 1;have d2':=hbx3.cell 2;have d3':=hbx3.cell 3;have d4':=hbx3.cell 4
 clear hd3 hbx3 hbD
 go_wp2_with fail
 refine ED HF1 ?_ ⟨e0',d0',d1',d2',d3',d4'⟩
 repeat(first|((first|refine Dt ?_|refine Du ?_);intro K hK;go_big_quiet_op;go_big_quiet_on)|((first|refine Dv ?_|refine Dw ?_);simp only[Act.put,AB,AE,AF]))
 refine A0g ?_
 clear HF1 e0 d0 d1 d2 d3 d4 e0' d0' d1' d2' d3' d4' hcell10 hcell11 hcell12 hcell13 hcell14 hcell15 hne1
 have HA1:=AA (A2k (P:=ps.map Pc.s) (x:=⟨1,0,X1,X2,none,0,0,[]⟩))
 have HA2:=AA (A2P (P:=ps.map Pc.s) (x:=⟨1,0,X1,X2,none,0,0,[]⟩))
 have HTL:=AA (A1o HD.out.o ⟨1,0,X1,X2,none,0,0,[]⟩)
 generalize hsE (ps.map Pc.s) ⟨1,0,X1,X2,none,0,0,[]⟩=E at*
 generalize hsT (ps.map Pc.s) ⟨1,0,X1,X2,none,0,0,[]⟩=T at*
 exact C0A
theorem A9I(a t u:List UInt8)(b o c gd:Nat)(w:World)(hbw:b<w.heap.size)(htl:t.length≤4096)(hul:u.length≤4096)(hd:dig3 t=false)(c0:w.cell? ⟨b,o,none⟩=some (.string (S A0u)))(c1:w.cell? ⟨b,o+1,none⟩=some (.string (S a)))(c2:w.cell? ⟨b,o+2,none⟩=some (.string (S t)))(c3:w.cell? ⟨b,o+3,none⟩=some (.string (S u))):
 Calls Tryz.prog 96 #[.pointer (some ⟨gd,0,none⟩),.slice (some ⟨b,o,none⟩) 5 c] w (fun e w'=>e= .panicked [{v:=refV 12,recovered:=false}]∧Below w.heap.size w w'):=by
 have q1:((S A0u).toList==[110,101,119])=false:=by rw[eqk];decide
 have q2:((S A0u).toList==[101,100,105,116])=true:=by rw[eqk];decide
 have zt:(S t).size≤4096:=by rw[A0b];exact htl
 have zu:(S u).size≤4096:=by rw[A0b];exact hul
 have HN2:=AA (fun W=>A0F (S t) W EE)
 have HN3:=AA (fun W=>A0F (S u) W EE)
 rw[L_S] at HN2 HN3
 have HU:Hid (A3K 12= .panicked [{v:=refV 12,recovered:=false}]):=rfl
 generalize S A0u=X0 at*
 exact C0B
theorem A9J(a t u:List UInt8)(b o c gd:Nat)(w:World)(hbw:b<w.heap.size)(htl:t.length≤4096)(hul:u.length≤4096)(hd:dig3 t=true)(hd3:dig3 u=false)(c0:w.cell? ⟨b,o,none⟩=some (.string (S A0u)))(c1:w.cell? ⟨b,o+1,none⟩=some (.string (S a)))(c2:w.cell? ⟨b,o+2,none⟩=some (.string (S t)))(c3:w.cell? ⟨b,o+3,none⟩=some (.string (S u))):
 Calls Tryz.prog 96 #[.pointer (some ⟨gd,0,none⟩),.slice (some ⟨b,o,none⟩) 5 c] w (fun e w'=>e= .panicked [{v:=refV 12,recovered:=false}]∧Below w.heap.size w w'):=by
 have q1:((S A0u).toList==[110,101,119])=false:=by rw[eqk];decide
 have q2:((S A0u).toList==[101,100,105,116])=true:=by rw[eqk];decide
 have zt:(S t).size≤4096:=by rw[A0b];exact htl
 have zu:(S u).size≤4096:=by rw[A0b];exact hul
 have HN2:=AA (fun W=>A0F (S t) W EE)
 have HN3:=AA (fun W=>A0F (S u) W EE)
 rw[L_S] at HN2 HN3
 have HU:Hid (A3K 12= .panicked [{v:=refV 12,recovered:=false}]):=rfl
 generalize S A0u=X0 at*
 exact C0r
theorem B6G(a t u i:List UInt8)(b o c base gh gd:Nat)(v:Value)(ps:List Pc)(w:World)(hD:DkAt w base gh gd v ps)(hbw:b<w.heap.size)(ha:a.length≤4096)(htl:t.length≤4096)(hul:u.length≤4096)(hd:dig3 t=true)(hd3:dig3 u=true)(ht:TabI w)(c0:w.cell? ⟨b,o,none⟩=some (.string (S A0u)))(c1:w.cell? ⟨b,o+1,none⟩=some (.string (S a)))(c2:w.cell? ⟨b,o+2,none⟩=some (.string (S t)))(c3:w.cell? ⟨b,o+3,none⟩=some (.string (S u)))(c4:w.cell? ⟨b,o+4,none⟩=some (.string (S i))):
 Calls Tryz.prog 96 #[.pointer (some ⟨gd,0,none⟩),.slice (some ⟨b,o,none⟩) 5 c] w (fun e w'=>∃A,A3h w base gh v ps ⟨2,0,S a,⟨#[]⟩,A,1,1,[⟨(numV t:Int),(numV u:Int),i⟩]⟩ e w'):=by
 have q1:((S A0u).toList==[110,101,119])=false:=by rw[eqk];decide
 have q2:((S A0u).toList==[101,100,105,116])=true:=by rw[eqk];decide
 have zt:(S t).size≤4096:=by rw[A0b];exact htl
 have zu:(S u).size≤4096:=by rw[A0b];exact hul
 have HN2:=AA (fun W=>A0F (S t) W EE)
 have HN3:=AA (fun W=>A0F (S u) W EE)
 rw[L_S] at HN2 HN3
 have HU:Hid (A3K 12= .panicked [{v:=refV 12,recovered:=false}]):=rfl
 have za:(S a).size≤4096:=by rw[A0b];exact ha
 generalize S A0u=X0 at*
 generalize S a=X1 at*
 generalize S t=X2 at*
 generalize S u=X3 at*
 have HV2:Hid (A1U t= .returned (.int .i64 (numV t:Int))):=by unfold Hid A1U;rw[if_pos hd]
 have HV3:Hid (A1U u= .returned (.int .i64 (numV u:Int))):=by unfold Hid A1U;rw[if_pos hd3]
 rw[HV2.out] at HN2
 rw[HV3.out] at HN3
 generalize((numV t:Nat):Int)=V2 at*
 generalize((numV u:Nat):Int)=V3 at*
 have HD:=AA hD
 have HT:=AA ht
 clear hD ht ha htl hul hd hd3 HV2 HV3 HU
 go_enter Tryz.func96,Tryz.ntmps96
 go_wp2_with fail
 have hB1:Below w.heap.size w (w.alloc (.cells #[.int .i64 2,.int .i64 0,.string X1,.string ⟨#[]⟩,.slice none 0 0] 32)):=Ds
 have hBX1:Blk (w.alloc (.cells #[.int .i64 2,.int .i64 0,.string X1,.string ⟨#[]⟩,.slice none 0 0] 32)) w.heap.size 32 #[.int .i64 2,.int .i64 0,.string X1,.string ⟨#[]⟩,.slice none 0 0]:=Blk.new_ _ _ _
 generalize w.alloc (.cells #[.int .i64 2,.int .i64 0,.string X1,.string ⟨#[]⟩,.slice none 0 0] 32)=w1 at*
 have y2:=(hB1.cell (p:=⟨b,o+2,none⟩) hbw).trans c2
 have y3:=(hB1.cell (p:=⟨b,o+3,none⟩) hbw).trans c3
 obtain⟨F1,HF1,hcell10,hcell11⟩:=cells2 ⟨b,o+2,none⟩ (.string X2) ⟨b,o+3,none⟩ (.string X3)
 refine EC (.op 0 true (.op 1 true (.op 2 true (.op 4 true (.op 5 true (.op 6 true (.fork 3 9 (.fork 7 9 (.op 8 true (.op 9 false .nil)) (.op 7 false (.op 8 true .nil))) (.op 3 false (.op 7 false (.op 8 true .nil)))))))))) 10 10 [] HF1 ?_
 intro hne1
 simp only[A1L,A2I,AT,AP,AR]
 repeat(first|((first|refine Dx ?_|refine Dy ?_);intro K hK;go_big_quiet_op;go_big_quiet_on)|((first|refine Dz ?_|refine EA ?_);simp only[Act.put,AB,AE,AF]))
 have hB1:=hB1.drew
 have hBX1:=hBX1.drew
 refine A2n ?_ ?_
 ·skip
  go_wp2_with fail
  refine(HN2.out _).mono ?_
  rintro e a ⟨rfl,hba⟩
  have hBa:=hB1.trans (hba.mono hB1.size)
  have hBXa:=hBX1.below' hba
  have y2a:=(hBa.cell (p:=⟨b,o+2,none⟩) hbw).trans c2
  have y3a:=(hBa.cell (p:=⟨b,o+3,none⟩) hbw).trans c3
  go_wp2_with fail
  refine ED HF1 ?_ ⟨y2a,y3a⟩
  repeat(first|((first|refine Dx ?_|refine Dy ?_);intro K hK;go_big_quiet_op;go_big_quiet_on)|((first|refine Dz ?_|refine EA ?_);simp only[Act.put,AB,AE,AF]))
  refine A2n ?_ ?_
  ·skip
   go_wp2_with fail
   refine(HN3.out _).mono ?_
   rintro e q ⟨rfl,hbq⟩
   have hBq:=hBa.trans (hbq.mono hBa.size)
   have hBXq:=hBXa.below' hbq
   have y2q:=(hBq.cell (p:=⟨b,o+2,none⟩) hbw).trans c2
   have y3q:=(hBq.cell (p:=⟨b,o+3,none⟩) hbw).trans c3
   go_wp2_with fail
   refine ED HF1 ?_ ⟨y2q,y3q⟩
   repeat(first|((first|refine Dx ?_|refine Dy ?_);intro K hK;go_big_quiet_op;go_big_quiet_on)|((first|refine Dz ?_|refine EA ?_);simp only[Act.put,AB,AE,AF]))
   refine A0s ?_
   go_wp2_with fail
   have hBp:Below w.heap.size w (q.alloc (.cells #[.int .i64 0,.int .i64 0,.string ⟨#[]⟩] 95)):=hBq.alloc hBq.size _
   have hBXp:Blk (q.alloc (.cells #[.int .i64 0,.int .i64 0,.string ⟨#[]⟩] 95)) w.heap.size 32 #[.int .i64 2,.int .i64 0,.string X1,.string ⟨#[]⟩,.slice none 0 0]:=hBXq.alloc (.cells #[.int .i64 0,.int .i64 0,.string ⟨#[]⟩] 95)
   have hBEp:Blk (q.alloc (.cells #[.int .i64 0,.int .i64 0,.string ⟨#[]⟩] 95)) q.heap.size 95 #[.int .i64 0,.int .i64 0,.string ⟨#[]⟩]:=Blk.new_ q _ _
   have hGEp:w.heap.size≤q.heap.size:=hBq.size
   generalize(q.alloc (.cells #[.int .i64 0,.int .i64 0,.string ⟨#[]⟩] 95))=p at*
   have y2p:=(hBp.cell (p:=⟨b,o+2,none⟩) hbw).trans c2
   have y3p:=(hBp.cell (p:=⟨b,o+3,none⟩) hbw).trans c3
   refine ED HF1 ?_ ⟨y2p,y3p⟩
   repeat(first|((first|refine Dx ?_|refine Dy ?_);intro K hK;go_big_quiet_op;go_big_quiet_on)|((first|refine Dz ?_|refine EA ?_);simp only[Act.put,AB,AE,AF]))
   refine A2r ?_
   refine A0Y ?_
   have z0:=hBEp.frozen 0;have z1:=hBEp.frozen 1;have z2:=hBEp.frozen 2
   have z3:=hBEp.cell 0;have z4:=hBEp.cell 1;have z5:=hBEp.cell 2
   have hneg:w.heap.size≠q.heap.size:=hBXp.neH hBEp EF
   have hneg':¬q.heap.size=w.heap.size:=fun e=>hneg e.symm
   have hge:w.heap.size≤q.heap.size:=by have:=hGEp;omega
   have hgl:=hBEp.lt
   go_wp2_with fail
   refine A1n ?_
   refine A1z ?_
   have hW1:Below w.heap.size w (((p.setCell ⟨q.heap.size,0,none⟩ (.int .i64 V2)).setCell ⟨q.heap.size,1,none⟩ (.int .i64 V3)).setCell ⟨q.heap.size,2,none⟩ (.string ⟨#[]⟩)):=((hBp.setCell hge _).setCell hge _).setCell hge _
   have hX1:Blk (((p.setCell ⟨q.heap.size,0,none⟩ (.int .i64 V2)).setCell ⟨q.heap.size,1,none⟩ (.int .i64 V3)).setCell ⟨q.heap.size,2,none⟩ (.string ⟨#[]⟩)) w.heap.size 32 #[.int .i64 2,.int .i64 0,.string X1,.string ⟨#[]⟩,.slice none 0 0]:=((hBXp.far (Ne.symm hneg') _).far (Ne.symm hneg') _).far (Ne.symm hneg') _
   have hE1:Blk (((p.setCell ⟨q.heap.size,0,none⟩ (.int .i64 V2)).setCell ⟨q.heap.size,1,none⟩ (.int .i64 V3)).setCell ⟨q.heap.size,2,none⟩ (.string ⟨#[]⟩)) (q.heap.size) 95 #[.int .i64 V2,.int .i64 V3,.string ⟨#[]⟩]:=((hBEp.set_ 0 _).set_ 1 _).set_ 2 _
   clear HF1 z0 z1 z2 z3 z4 z5 hcell10 hcell11 hne1 hgl
   generalize((p.setCell ⟨q.heap.size,0,none⟩ (.int .i64 V2)).setCell ⟨q.heap.size,1,none⟩ (.int .i64 V3)).setCell ⟨q.heap.size,2,none⟩ (.string ⟨#[]⟩)=x1 at*
   have z2:=hE1.frozen 2
   have z3:=hE1.cell 0;have z4:=hE1.cell 1;have z5:=hE1.cell 2
   have z6:=hX1.frozen 4;have z7:=hX1.cell 4
   have hgl:=hE1.lt
   have hgx:=hX1.lt
   have y4:=(hW1.cell (p:=⟨b,o+4,none⟩) hbw).trans c4
   have hbg:¬b=q.heap.size:=EE
   have hbg2:¬q.heap.size=b:=EE
   go_wp2_with fail
   have hB2:Below w.heap.size w (((x1.setCell ⟨q.heap.size,2,none⟩ (.string (S i))).setCell ⟨w.heap.size,4,none⟩ (.slice (some ⟨x1.heap.size,0,none⟩) 1 1)).alloc (.cells #[.int .i64 V2,.int .i64 V3,.string (S i)] 95)):=((hW1.setCell hge _).setCell (AD _) _).alloc (by simp;omega) _
   have hBX:Blk (((x1.setCell ⟨q.heap.size,2,none⟩ (.string (S i))).setCell ⟨w.heap.size,4,none⟩ (.slice (some ⟨x1.heap.size,0,none⟩) 1 1)).alloc (.cells #[.int .i64 V2,.int .i64 V3,.string (S i)] 95)) w.heap.size 32 #[.int .i64 2,.int .i64 0,.string X1,.string ⟨#[]⟩,.slice (some ⟨x1.heap.size,0,none⟩) 1 1]:=((hX1.far (Ne.symm hneg') _).set_ 4 _).alloc _
   have hsz:((x1.setCell ⟨q.heap.size,2,none⟩ (.string (S i))).setCell ⟨w.heap.size,4,none⟩ (.slice (some ⟨x1.heap.size,0,none⟩) 1 1)).heap.size=x1.heap.size:=by simp
   have hfs:(((x1.setCell ⟨q.heap.size,2,none⟩ (.string (S i))).setCell ⟨w.heap.size,4,none⟩ (.slice (some ⟨x1.heap.size,0,none⟩) 1 1)).alloc (.cells #[.int .i64 V2,.int .i64 V3,.string (S i)] 95)).heap.size=x1.heap.size+1:=by simp
   have hrd:Rd (((x1.setCell ⟨q.heap.size,2,none⟩ (.string (S i))).setCell ⟨w.heap.size,4,none⟩ (.slice (some ⟨x1.heap.size,0,none⟩) 1 1)).alloc (.cells #[.int .i64 V2,.int .i64 V3,.string (S i)] 95)) (x1.heap.size+1) 3 (some ⟨x1.heap.size,0,none⟩) 1 [.int .i64 V2,.int .i64 V3,.string (S i)]:=by
    have:=Rd.new_ ((x1.setCell ⟨q.heap.size,2,none⟩ (.string (S i))).setCell ⟨w.heap.size,4,none⟩ (.slice (some ⟨x1.heap.size,0,none⟩) 1 1)) #[.int .i64 V2,.int .i64 V3,.string (S i)] 95 (B:=x1.heap.size+1) (size:=3) (n:=1) (by rw[hsz];omega) rfl
    rw[hsz] at this
    exact this
   have hx1s:w.heap.size≤x1.heap.size:=hW1.size
   clear z2 z3 z4 z5 z6 z7 hgl hgx hE1 hX1 hW1 hsz
   generalize((x1.setCell ⟨q.heap.size,2,none⟩ (.string (S i))).setCell ⟨w.heap.size,4,none⟩ (.slice (some ⟨x1.heap.size,0,none⟩) 1 1)).alloc (.cells #[.int .i64 V2,.int .i64 V3,.string (S i)] 95)=w2 at*
   exact C0o
  ·skip
   go_wp2_with fail
   have hBp:Below w.heap.size w (a.alloc (.cells #[.int .i64 0,.int .i64 0,.string ⟨#[]⟩] 95)):=hBa.alloc hBa.size _
   have hBXp:Blk (a.alloc (.cells #[.int .i64 0,.int .i64 0,.string ⟨#[]⟩] 95)) w.heap.size 32 #[.int .i64 2,.int .i64 0,.string X1,.string ⟨#[]⟩,.slice none 0 0]:=hBXa.alloc (.cells #[.int .i64 0,.int .i64 0,.string ⟨#[]⟩] 95)
   have hBEp:Blk (a.alloc (.cells #[.int .i64 0,.int .i64 0,.string ⟨#[]⟩] 95)) a.heap.size 95 #[.int .i64 0,.int .i64 0,.string ⟨#[]⟩]:=Blk.new_ a _ _
   have hGEp:w.heap.size≤a.heap.size:=hBa.size
   generalize(a.alloc (.cells #[.int .i64 0,.int .i64 0,.string ⟨#[]⟩] 95))=p at*
   have y2p:=(hBp.cell (p:=⟨b,o+2,none⟩) hbw).trans c2
   have y3p:=(hBp.cell (p:=⟨b,o+3,none⟩) hbw).trans c3
   refine ED HF1 ?_ ⟨y2p,y3p⟩
   repeat(first|((first|refine Dx ?_|refine Dy ?_);intro K hK;go_big_quiet_op;go_big_quiet_on)|((first|refine Dz ?_|refine EA ?_);simp only[Act.put,AB,AE,AF]))
   refine A0s ?_
   go_wp2_with fail
   refine(HN3.out _).mono ?_
   rintro e q ⟨rfl,hbq⟩
   have hBq:=hBp.trans (hbq.mono hBp.size)
   have hBXq:=hBXp.below' hbq
   have hBEq:=hBEp.below' hbq
   have y2q:=(hBq.cell (p:=⟨b,o+2,none⟩) hbw).trans c2
   have y3q:=(hBq.cell (p:=⟨b,o+3,none⟩) hbw).trans c3
   go_wp2_with fail
   refine ED HF1 ?_ ⟨y2q,y3q⟩
   repeat(first|((first|refine Dx ?_|refine Dy ?_);intro K hK;go_big_quiet_op;go_big_quiet_on)|((first|refine Dz ?_|refine EA ?_);simp only[Act.put,AB,AE,AF]))
   refine A2r ?_
   refine A0Y ?_
   have z0:=hBEq.frozen 0;have z1:=hBEq.frozen 1;have z2:=hBEq.frozen 2
   have z3:=hBEq.cell 0;have z4:=hBEq.cell 1;have z5:=hBEq.cell 2
   have hneg:w.heap.size≠a.heap.size:=hBXq.neH hBEq EF
   have hneg':¬a.heap.size=w.heap.size:=fun e=>hneg e.symm
   have hge:w.heap.size≤a.heap.size:=by have:=hGEp;omega
   have hgl:=hBEq.lt
   go_wp2_with fail
   refine A1n ?_
   refine A1z ?_
   have hW1:Below w.heap.size w (((q.setCell ⟨a.heap.size,0,none⟩ (.int .i64 V2)).setCell ⟨a.heap.size,1,none⟩ (.int .i64 V3)).setCell ⟨a.heap.size,2,none⟩ (.string ⟨#[]⟩)):=((hBq.setCell hge _).setCell hge _).setCell hge _
   have hX1:Blk (((q.setCell ⟨a.heap.size,0,none⟩ (.int .i64 V2)).setCell ⟨a.heap.size,1,none⟩ (.int .i64 V3)).setCell ⟨a.heap.size,2,none⟩ (.string ⟨#[]⟩)) w.heap.size 32 #[.int .i64 2,.int .i64 0,.string X1,.string ⟨#[]⟩,.slice none 0 0]:=((hBXq.far (Ne.symm hneg') _).far (Ne.symm hneg') _).far (Ne.symm hneg') _
   have hE1:Blk (((q.setCell ⟨a.heap.size,0,none⟩ (.int .i64 V2)).setCell ⟨a.heap.size,1,none⟩ (.int .i64 V3)).setCell ⟨a.heap.size,2,none⟩ (.string ⟨#[]⟩)) (a.heap.size) 95 #[.int .i64 V2,.int .i64 V3,.string ⟨#[]⟩]:=((hBEq.set_ 0 _).set_ 1 _).set_ 2 _
   clear HF1 z0 z1 z2 z3 z4 z5 hcell10 hcell11 hne1 hgl
   generalize((q.setCell ⟨a.heap.size,0,none⟩ (.int .i64 V2)).setCell ⟨a.heap.size,1,none⟩ (.int .i64 V3)).setCell ⟨a.heap.size,2,none⟩ (.string ⟨#[]⟩)=x1 at*
   have z2:=hE1.frozen 2
   have z3:=hE1.cell 0;have z4:=hE1.cell 1;have z5:=hE1.cell 2
   have z6:=hX1.frozen 4;have z7:=hX1.cell 4
   have hgl:=hE1.lt
   have hgx:=hX1.lt
   have y4:=(hW1.cell (p:=⟨b,o+4,none⟩) hbw).trans c4
   have hbg:¬b=a.heap.size:=EE
   have hbg2:¬a.heap.size=b:=EE
   go_wp2_with fail
   have hB2:Below w.heap.size w (((x1.setCell ⟨a.heap.size,2,none⟩ (.string (S i))).setCell ⟨w.heap.size,4,none⟩ (.slice (some ⟨x1.heap.size,0,none⟩) 1 1)).alloc (.cells #[.int .i64 V2,.int .i64 V3,.string (S i)] 95)):=((hW1.setCell hge _).setCell (AD _) _).alloc (by simp;omega) _
   have hBX:Blk (((x1.setCell ⟨a.heap.size,2,none⟩ (.string (S i))).setCell ⟨w.heap.size,4,none⟩ (.slice (some ⟨x1.heap.size,0,none⟩) 1 1)).alloc (.cells #[.int .i64 V2,.int .i64 V3,.string (S i)] 95)) w.heap.size 32 #[.int .i64 2,.int .i64 0,.string X1,.string ⟨#[]⟩,.slice (some ⟨x1.heap.size,0,none⟩) 1 1]:=((hX1.far (Ne.symm hneg') _).set_ 4 _).alloc _
   have hsz:((x1.setCell ⟨a.heap.size,2,none⟩ (.string (S i))).setCell ⟨w.heap.size,4,none⟩ (.slice (some ⟨x1.heap.size,0,none⟩) 1 1)).heap.size=x1.heap.size:=by simp
   have hfs:(((x1.setCell ⟨a.heap.size,2,none⟩ (.string (S i))).setCell ⟨w.heap.size,4,none⟩ (.slice (some ⟨x1.heap.size,0,none⟩) 1 1)).alloc (.cells #[.int .i64 V2,.int .i64 V3,.string (S i)] 95)).heap.size=x1.heap.size+1:=by simp
   have hrd:Rd (((x1.setCell ⟨a.heap.size,2,none⟩ (.string (S i))).setCell ⟨w.heap.size,4,none⟩ (.slice (some ⟨x1.heap.size,0,none⟩) 1 1)).alloc (.cells #[.int .i64 V2,.int .i64 V3,.string (S i)] 95)) (x1.heap.size+1) 3 (some ⟨x1.heap.size,0,none⟩) 1 [.int .i64 V2,.int .i64 V3,.string (S i)]:=by
    have:=Rd.new_ ((x1.setCell ⟨a.heap.size,2,none⟩ (.string (S i))).setCell ⟨w.heap.size,4,none⟩ (.slice (some ⟨x1.heap.size,0,none⟩) 1 1)) #[.int .i64 V2,.int .i64 V3,.string (S i)] 95 (B:=x1.heap.size+1) (size:=3) (n:=1) (by rw[hsz];omega) rfl
    rw[hsz] at this
    exact this
   have hx1s:w.heap.size≤x1.heap.size:=hW1.size
   clear z2 z3 z4 z5 z6 z7 hgl hgx hE1 hX1 hW1 hsz
   generalize((x1.setCell ⟨a.heap.size,2,none⟩ (.string (S i))).setCell ⟨w.heap.size,4,none⟩ (.slice (some ⟨x1.heap.size,0,none⟩) 1 1)).alloc (.cells #[.int .i64 V2,.int .i64 V3,.string (S i)] 95)=w2 at*
   exact C0o
 ·skip
  go_wp2_with fail
  have hBp:Below w.heap.size w (w1.alloc (.cells #[.int .i64 0,.int .i64 0,.string ⟨#[]⟩] 95)).drew:=hB1.alloc hB1.size _
  have hBXp:Blk (w1.alloc (.cells #[.int .i64 0,.int .i64 0,.string ⟨#[]⟩] 95)).drew w.heap.size 32 #[.int .i64 2,.int .i64 0,.string X1,.string ⟨#[]⟩,.slice none 0 0]:=hBX1.alloc (.cells #[.int .i64 0,.int .i64 0,.string ⟨#[]⟩] 95)
  have hBEp:Blk (w1.alloc (.cells #[.int .i64 0,.int .i64 0,.string ⟨#[]⟩] 95)).drew w1.heap.size 95 #[.int .i64 0,.int .i64 0,.string ⟨#[]⟩]:=Blk.new_ w1 _ _
  have hGEp:w.heap.size≤w1.heap.size:=hB1.size
  generalize(w1.alloc (.cells #[.int .i64 0,.int .i64 0,.string ⟨#[]⟩] 95)).drew=p at*
  have y2p:=(hBp.cell (p:=⟨b,o+2,none⟩) hbw).trans c2
  have y3p:=(hBp.cell (p:=⟨b,o+3,none⟩) hbw).trans c3
  refine ED HF1 ?_ ⟨y2p,y3p⟩
  repeat(first|((first|refine Dx ?_|refine Dy ?_);intro K hK;go_big_quiet_op;go_big_quiet_on)|((first|refine Dz ?_|refine EA ?_);simp only[Act.put,AB,AE,AF]))
  refine A0s ?_
  go_wp2_with fail
  refine(HN2.out _).mono ?_
  rintro e a ⟨rfl,hba⟩
  have hBa:=hBp.trans (hba.mono hBp.size)
  have hBXa:=hBXp.below' hba
  have hBEa:=hBEp.below' hba
  have y2a:=(hBa.cell (p:=⟨b,o+2,none⟩) hbw).trans c2
  have y3a:=(hBa.cell (p:=⟨b,o+3,none⟩) hbw).trans c3
  go_wp2_with fail
  refine ED HF1 ?_ ⟨y2a,y3a⟩
  repeat(first|((first|refine Dx ?_|refine Dy ?_);intro K hK;go_big_quiet_op;go_big_quiet_on)|((first|refine Dz ?_|refine EA ?_);simp only[Act.put,AB,AE,AF]))
  refine A0s ?_
  go_wp2_with fail
  refine(HN3.out _).mono ?_
  rintro e q ⟨rfl,hbq⟩
  have hBq:=hBa.trans (hbq.mono hBa.size)
  have hBXq:=hBXa.below' hbq
  have hBEq:=hBEa.below' hbq
  have y2q:=(hBq.cell (p:=⟨b,o+2,none⟩) hbw).trans c2
  have y3q:=(hBq.cell (p:=⟨b,o+3,none⟩) hbw).trans c3
  go_wp2_with fail
  refine ED HF1 ?_ ⟨y2q,y3q⟩
  repeat(first|((first|refine Dx ?_|refine Dy ?_);intro K hK;go_big_quiet_op;go_big_quiet_on)|((first|refine Dz ?_|refine EA ?_);simp only[Act.put,AB,AE,AF]))
  refine A2r ?_
  refine A0Y ?_
  have z0:=hBEq.frozen 0;have z1:=hBEq.frozen 1;have z2:=hBEq.frozen 2
  have z3:=hBEq.cell 0;have z4:=hBEq.cell 1;have z5:=hBEq.cell 2
  have hneg:w.heap.size≠w1.heap.size:=hBXq.neH hBEq EF
  have hneg':¬w1.heap.size=w.heap.size:=fun e=>hneg e.symm
  have hge:w.heap.size≤w1.heap.size:=by have:=hGEp;omega
  have hgl:=hBEq.lt
  go_wp2_with fail
  refine A1n ?_
  refine A1z ?_
  have hW1:Below w.heap.size w (((q.setCell ⟨w1.heap.size,0,none⟩ (.int .i64 V2)).setCell ⟨w1.heap.size,1,none⟩ (.int .i64 V3)).setCell ⟨w1.heap.size,2,none⟩ (.string ⟨#[]⟩)):=((hBq.setCell hge _).setCell hge _).setCell hge _
  have hX1:Blk (((q.setCell ⟨w1.heap.size,0,none⟩ (.int .i64 V2)).setCell ⟨w1.heap.size,1,none⟩ (.int .i64 V3)).setCell ⟨w1.heap.size,2,none⟩ (.string ⟨#[]⟩)) w.heap.size 32 #[.int .i64 2,.int .i64 0,.string X1,.string ⟨#[]⟩,.slice none 0 0]:=((hBXq.far (Ne.symm hneg') _).far (Ne.symm hneg') _).far (Ne.symm hneg') _
  have hE1:Blk (((q.setCell ⟨w1.heap.size,0,none⟩ (.int .i64 V2)).setCell ⟨w1.heap.size,1,none⟩ (.int .i64 V3)).setCell ⟨w1.heap.size,2,none⟩ (.string ⟨#[]⟩)) (w1.heap.size) 95 #[.int .i64 V2,.int .i64 V3,.string ⟨#[]⟩]:=((hBEq.set_ 0 _).set_ 1 _).set_ 2 _
  clear HF1 z0 z1 z2 z3 z4 z5 hcell10 hcell11 hne1 hgl
  generalize((q.setCell ⟨w1.heap.size,0,none⟩ (.int .i64 V2)).setCell ⟨w1.heap.size,1,none⟩ (.int .i64 V3)).setCell ⟨w1.heap.size,2,none⟩ (.string ⟨#[]⟩)=x1 at*
  have z2:=hE1.frozen 2
  have z3:=hE1.cell 0;have z4:=hE1.cell 1;have z5:=hE1.cell 2
  have z6:=hX1.frozen 4;have z7:=hX1.cell 4
  have hgl:=hE1.lt
  have hgx:=hX1.lt
  have y4:=(hW1.cell (p:=⟨b,o+4,none⟩) hbw).trans c4
  have hbg:¬b=w1.heap.size:=EE
  have hbg2:¬w1.heap.size=b:=EE
  go_wp2_with fail
  have hB2:Below w.heap.size w (((x1.setCell ⟨w1.heap.size,2,none⟩ (.string (S i))).setCell ⟨w.heap.size,4,none⟩ (.slice (some ⟨x1.heap.size,0,none⟩) 1 1)).alloc (.cells #[.int .i64 V2,.int .i64 V3,.string (S i)] 95)):=((hW1.setCell hge _).setCell (AD _) _).alloc (by simp;omega) _
  have hBX:Blk (((x1.setCell ⟨w1.heap.size,2,none⟩ (.string (S i))).setCell ⟨w.heap.size,4,none⟩ (.slice (some ⟨x1.heap.size,0,none⟩) 1 1)).alloc (.cells #[.int .i64 V2,.int .i64 V3,.string (S i)] 95)) w.heap.size 32 #[.int .i64 2,.int .i64 0,.string X1,.string ⟨#[]⟩,.slice (some ⟨x1.heap.size,0,none⟩) 1 1]:=((hX1.far (Ne.symm hneg') _).set_ 4 _).alloc _
  have hsz:((x1.setCell ⟨w1.heap.size,2,none⟩ (.string (S i))).setCell ⟨w.heap.size,4,none⟩ (.slice (some ⟨x1.heap.size,0,none⟩) 1 1)).heap.size=x1.heap.size:=by simp
  have hfs:(((x1.setCell ⟨w1.heap.size,2,none⟩ (.string (S i))).setCell ⟨w.heap.size,4,none⟩ (.slice (some ⟨x1.heap.size,0,none⟩) 1 1)).alloc (.cells #[.int .i64 V2,.int .i64 V3,.string (S i)] 95)).heap.size=x1.heap.size+1:=by simp
  have hrd:Rd (((x1.setCell ⟨w1.heap.size,2,none⟩ (.string (S i))).setCell ⟨w.heap.size,4,none⟩ (.slice (some ⟨x1.heap.size,0,none⟩) 1 1)).alloc (.cells #[.int .i64 V2,.int .i64 V3,.string (S i)] 95)) (x1.heap.size+1) 3 (some ⟨x1.heap.size,0,none⟩) 1 [.int .i64 V2,.int .i64 V3,.string (S i)]:=by
   have:=Rd.new_ ((x1.setCell ⟨w1.heap.size,2,none⟩ (.string (S i))).setCell ⟨w.heap.size,4,none⟩ (.slice (some ⟨x1.heap.size,0,none⟩) 1 1)) #[.int .i64 V2,.int .i64 V3,.string (S i)] 95 (B:=x1.heap.size+1) (size:=3) (n:=1) (by rw[hsz];omega) rfl
   rw[hsz] at this
   exact this
  have hx1s:w.heap.size≤x1.heap.size:=hW1.size
  clear z2 z3 z4 z5 z6 z7 hgl hgx hE1 hX1 hW1 hsz
  generalize((x1.setCell ⟨w1.heap.size,2,none⟩ (.string (S i))).setCell ⟨w.heap.size,4,none⟩ (.slice (some ⟨x1.heap.size,0,none⟩) 1 1)).alloc (.cells #[.int .i64 V2,.int .i64 V3,.string (S i)] 95)=w2 at*
  exact C0o
theorem B0Z(a t u:List UInt8)(b o c gd:Nat)(w:World)(hbw:b<w.heap.size)(htl:t.length≤4096)(hul:u.length≤4096)(hd:dig3 t=false)(c0:w.cell? ⟨b,o,none⟩=some (.string (S kCut)))(c1:w.cell? ⟨b,o+1,none⟩=some (.string (S a)))(c2:w.cell? ⟨b,o+2,none⟩=some (.string (S t)))(c3:w.cell? ⟨b,o+3,none⟩=some (.string (S u))):
 Calls Tryz.prog 96 #[.pointer (some ⟨gd,0,none⟩),.slice (some ⟨b,o,none⟩) 4 c] w (fun e w'=>e= .panicked [{v:=refV 12,recovered:=false}]∧Below w.heap.size w w'):=by
 have q1:((S kCut).toList==[110,101,119])=false:=by rw[eqk];decide
 have q2:((S kCut).toList==[101,100,105,116])=false:=by rw[eqk];decide
 have q3:((S kCut).toList==[99,117,116])=true:=by rw[eqk];decide
 have zt:(S t).size≤4096:=by rw[A0b];exact htl
 have zu:(S u).size≤4096:=by rw[A0b];exact hul
 have HN2:=AA (fun W=>A0F (S t) W EE)
 have HN3:=AA (fun W=>A0F (S u) W EE)
 rw[L_S] at HN2 HN3
 have HU:Hid (A3K 12= .panicked [{v:=refV 12,recovered:=false}]):=rfl
 generalize S kCut=X0 at*
 exact C0B
theorem B1a(a t u:List UInt8)(b o c gd:Nat)(w:World)(hbw:b<w.heap.size)(htl:t.length≤4096)(hul:u.length≤4096)(hd:dig3 t=true)(hd3:dig3 u=false)(c0:w.cell? ⟨b,o,none⟩=some (.string (S kCut)))(c1:w.cell? ⟨b,o+1,none⟩=some (.string (S a)))(c2:w.cell? ⟨b,o+2,none⟩=some (.string (S t)))(c3:w.cell? ⟨b,o+3,none⟩=some (.string (S u))):
 Calls Tryz.prog 96 #[.pointer (some ⟨gd,0,none⟩),.slice (some ⟨b,o,none⟩) 4 c] w (fun e w'=>e= .panicked [{v:=refV 12,recovered:=false}]∧Below w.heap.size w w'):=by
 have q1:((S kCut).toList==[110,101,119])=false:=by rw[eqk];decide
 have q2:((S kCut).toList==[101,100,105,116])=false:=by rw[eqk];decide
 have q3:((S kCut).toList==[99,117,116])=true:=by rw[eqk];decide
 have zt:(S t).size≤4096:=by rw[A0b];exact htl
 have zu:(S u).size≤4096:=by rw[A0b];exact hul
 have HN2:=AA (fun W=>A0F (S t) W EE)
 have HN3:=AA (fun W=>A0F (S u) W EE)
 rw[L_S] at HN2 HN3
 have HU:Hid (A3K 12= .panicked [{v:=refV 12,recovered:=false}]):=rfl
 generalize S kCut=X0 at*
 exact C0r
theorem B8q(a t u:List UInt8)(b o c base gh gd:Nat)(v:Value)(ps:List Pc)(w:World)(hD:DkAt w base gh gd v ps)(hbw:b<w.heap.size)(ha:a.length≤4096)(htl:t.length≤4096)(hul:u.length≤4096)(hd:dig3 t=true)(hd3:dig3 u=true)(ht:TabI w)(c0:w.cell? ⟨b,o,none⟩=some (.string (S kCut)))(c1:w.cell? ⟨b,o+1,none⟩=some (.string (S a)))(c2:w.cell? ⟨b,o+2,none⟩=some (.string (S t)))(c3:w.cell? ⟨b,o+3,none⟩=some (.string (S u))):
 Calls Tryz.prog 96 #[.pointer (some ⟨gd,0,none⟩),.slice (some ⟨b,o,none⟩) 4 c] w (fun e w'=>∃A,A3h w base gh v ps ⟨2,0,S a,⟨#[]⟩,A,1,1,[⟨(numV t:Int),(numV u:Int),[]⟩]⟩ e w'):=by
 have q1:((S kCut).toList==[110,101,119])=false:=by rw[eqk];decide
 have q2:((S kCut).toList==[101,100,105,116])=false:=by rw[eqk];decide
 have q3:((S kCut).toList==[99,117,116])=true:=by rw[eqk];decide
 have zt:(S t).size≤4096:=by rw[A0b];exact htl
 have zu:(S u).size≤4096:=by rw[A0b];exact hul
 have HN2:=AA (fun W=>A0F (S t) W EE)
 have HN3:=AA (fun W=>A0F (S u) W EE)
 rw[L_S] at HN2 HN3
 have HU:Hid (A3K 12= .panicked [{v:=refV 12,recovered:=false}]):=rfl
 have za:(S a).size≤4096:=by rw[A0b];exact ha
 generalize S kCut=X0 at*
 generalize S a=X1 at*
 generalize S t=X2 at*
 generalize S u=X3 at*
 have HV2:Hid (A1U t= .returned (.int .i64 (numV t:Int))):=by unfold Hid A1U;rw[if_pos hd]
 have HV3:Hid (A1U u= .returned (.int .i64 (numV u:Int))):=by unfold Hid A1U;rw[if_pos hd3]
 rw[HV2.out] at HN2
 rw[HV3.out] at HN3
 generalize((numV t:Nat):Int)=V2 at*
 generalize((numV u:Nat):Int)=V3 at*
 have HD:=AA hD
 have HT:=AA ht
 clear hD ht ha htl hul hd hd3 HV2 HV3 HU
 go_enter Tryz.func96,Tryz.ntmps96
 go_wp2_with fail
 have hB1:Below w.heap.size w (w.alloc (.cells #[.int .i64 2,.int .i64 0,.string X1,.string ⟨#[]⟩,.slice none 0 0] 32)):=Ds
 have hBX1:Blk (w.alloc (.cells #[.int .i64 2,.int .i64 0,.string X1,.string ⟨#[]⟩,.slice none 0 0] 32)) w.heap.size 32 #[.int .i64 2,.int .i64 0,.string X1,.string ⟨#[]⟩,.slice none 0 0]:=Blk.new_ _ _ _
 generalize w.alloc (.cells #[.int .i64 2,.int .i64 0,.string X1,.string ⟨#[]⟩,.slice none 0 0] 32)=w1 at*
 have y2:=(hB1.cell (p:=⟨b,o+2,none⟩) hbw).trans c2
 have y3:=(hB1.cell (p:=⟨b,o+3,none⟩) hbw).trans c3
 obtain⟨F1,HF1,hcell10,hcell11⟩:=cells2 ⟨b,o+2,none⟩ (.string X2) ⟨b,o+3,none⟩ (.string X3)
 refine EC (.op 0 true (.op 1 true (.op 2 true (.op 4 true (.op 5 true (.op 6 true (.fork 3 9 (.fork 7 9 (.op 8 true (.op 9 false .nil)) (.op 7 false (.op 8 true .nil))) (.op 3 false (.op 7 false (.op 8 true .nil)))))))))) 10 10 [] HF1 ?_
 intro hne1
 simp only[A1L,A2I,AT,AP,AR]
 repeat(first|((first|refine Dx ?_|refine Dy ?_);intro K hK;go_big_quiet_op;go_big_quiet_on)|((first|refine Dz ?_|refine EA ?_);simp only[Act.put,AB,AE,AF]))
 have hB1:=hB1.drew
 have hBX1:=hBX1.drew
 refine A2n ?_ ?_
 ·skip
  go_wp2_with fail
  refine(HN2.out _).mono ?_
  rintro e a ⟨rfl,hba⟩
  have hBa:=hB1.trans (hba.mono hB1.size)
  have hBXa:=hBX1.below' hba
  have y2a:=(hBa.cell (p:=⟨b,o+2,none⟩) hbw).trans c2
  have y3a:=(hBa.cell (p:=⟨b,o+3,none⟩) hbw).trans c3
  go_wp2_with fail
  refine ED HF1 ?_ ⟨y2a,y3a⟩
  repeat(first|((first|refine Dx ?_|refine Dy ?_);intro K hK;go_big_quiet_op;go_big_quiet_on)|((first|refine Dz ?_|refine EA ?_);simp only[Act.put,AB,AE,AF]))
  refine A2n ?_ ?_
  ·skip
   go_wp2_with fail
   refine(HN3.out _).mono ?_
   rintro e q ⟨rfl,hbq⟩
   have hBq:=hBa.trans (hbq.mono hBa.size)
   have hBXq:=hBXa.below' hbq
   have y2q:=(hBq.cell (p:=⟨b,o+2,none⟩) hbw).trans c2
   have y3q:=(hBq.cell (p:=⟨b,o+3,none⟩) hbw).trans c3
   go_wp2_with fail
   refine ED HF1 ?_ ⟨y2q,y3q⟩
   repeat(first|((first|refine Dx ?_|refine Dy ?_);intro K hK;go_big_quiet_op;go_big_quiet_on)|((first|refine Dz ?_|refine EA ?_);simp only[Act.put,AB,AE,AF]))
   refine A0s ?_
   go_wp2_with fail
   have hBp:Below w.heap.size w (q.alloc (.cells #[.int .i64 0,.int .i64 0,.string ⟨#[]⟩] 95)):=hBq.alloc hBq.size _
   have hBXp:Blk (q.alloc (.cells #[.int .i64 0,.int .i64 0,.string ⟨#[]⟩] 95)) w.heap.size 32 #[.int .i64 2,.int .i64 0,.string X1,.string ⟨#[]⟩,.slice none 0 0]:=hBXq.alloc (.cells #[.int .i64 0,.int .i64 0,.string ⟨#[]⟩] 95)
   have hBEp:Blk (q.alloc (.cells #[.int .i64 0,.int .i64 0,.string ⟨#[]⟩] 95)) q.heap.size 95 #[.int .i64 0,.int .i64 0,.string ⟨#[]⟩]:=Blk.new_ q _ _
   have hGEp:w.heap.size≤q.heap.size:=hBq.size
   generalize(q.alloc (.cells #[.int .i64 0,.int .i64 0,.string ⟨#[]⟩] 95))=p at*
   have y2p:=(hBp.cell (p:=⟨b,o+2,none⟩) hbw).trans c2
   have y3p:=(hBp.cell (p:=⟨b,o+3,none⟩) hbw).trans c3
   refine ED HF1 ?_ ⟨y2p,y3p⟩
   repeat(first|((first|refine Dx ?_|refine Dy ?_);intro K hK;go_big_quiet_op;go_big_quiet_on)|((first|refine Dz ?_|refine EA ?_);simp only[Act.put,AB,AE,AF]))
   refine A2r ?_
   refine A0Y ?_
   have z0:=hBEp.frozen 0;have z1:=hBEp.frozen 1;have z2:=hBEp.frozen 2
   have z3:=hBEp.cell 0;have z4:=hBEp.cell 1;have z5:=hBEp.cell 2
   have hneg:w.heap.size≠q.heap.size:=hBXp.neH hBEp EF
   have hneg':¬q.heap.size=w.heap.size:=fun e=>hneg e.symm
   have hge:w.heap.size≤q.heap.size:=by have:=hGEp;omega
   have hgl:=hBEp.lt
   go_wp2_with fail
   refine A1n ?_
   refine A1z ?_
   have hW1:Below w.heap.size w (((p.setCell ⟨q.heap.size,0,none⟩ (.int .i64 V2)).setCell ⟨q.heap.size,1,none⟩ (.int .i64 V3)).setCell ⟨q.heap.size,2,none⟩ (.string ⟨#[]⟩)):=((hBp.setCell hge _).setCell hge _).setCell hge _
   have hX1:Blk (((p.setCell ⟨q.heap.size,0,none⟩ (.int .i64 V2)).setCell ⟨q.heap.size,1,none⟩ (.int .i64 V3)).setCell ⟨q.heap.size,2,none⟩ (.string ⟨#[]⟩)) w.heap.size 32 #[.int .i64 2,.int .i64 0,.string X1,.string ⟨#[]⟩,.slice none 0 0]:=((hBXp.far (Ne.symm hneg') _).far (Ne.symm hneg') _).far (Ne.symm hneg') _
   have hE1:Blk (((p.setCell ⟨q.heap.size,0,none⟩ (.int .i64 V2)).setCell ⟨q.heap.size,1,none⟩ (.int .i64 V3)).setCell ⟨q.heap.size,2,none⟩ (.string ⟨#[]⟩)) (q.heap.size) 95 #[.int .i64 V2,.int .i64 V3,.string ⟨#[]⟩]:=((hBEp.set_ 0 _).set_ 1 _).set_ 2 _
   clear HF1 z0 z1 z2 z3 z4 z5 hcell10 hcell11 hne1 hgl
   generalize((p.setCell ⟨q.heap.size,0,none⟩ (.int .i64 V2)).setCell ⟨q.heap.size,1,none⟩ (.int .i64 V3)).setCell ⟨q.heap.size,2,none⟩ (.string ⟨#[]⟩)=x1 at*
   have z2:=hE1.frozen 2
   have z3:=hE1.cell 0;have z4:=hE1.cell 1;have z5:=hE1.cell 2
   have z6:=hX1.frozen 4;have z7:=hX1.cell 4
   have hgl:=hE1.lt
   have hgx:=hX1.lt
   skip
   skip
   skip
   exact C0m
  ·skip
   go_wp2_with fail
   have hBp:Below w.heap.size w (a.alloc (.cells #[.int .i64 0,.int .i64 0,.string ⟨#[]⟩] 95)):=hBa.alloc hBa.size _
   have hBXp:Blk (a.alloc (.cells #[.int .i64 0,.int .i64 0,.string ⟨#[]⟩] 95)) w.heap.size 32 #[.int .i64 2,.int .i64 0,.string X1,.string ⟨#[]⟩,.slice none 0 0]:=hBXa.alloc (.cells #[.int .i64 0,.int .i64 0,.string ⟨#[]⟩] 95)
   have hBEp:Blk (a.alloc (.cells #[.int .i64 0,.int .i64 0,.string ⟨#[]⟩] 95)) a.heap.size 95 #[.int .i64 0,.int .i64 0,.string ⟨#[]⟩]:=Blk.new_ a _ _
   have hGEp:w.heap.size≤a.heap.size:=hBa.size
   generalize(a.alloc (.cells #[.int .i64 0,.int .i64 0,.string ⟨#[]⟩] 95))=p at*
   have y2p:=(hBp.cell (p:=⟨b,o+2,none⟩) hbw).trans c2
   have y3p:=(hBp.cell (p:=⟨b,o+3,none⟩) hbw).trans c3
   refine ED HF1 ?_ ⟨y2p,y3p⟩
   repeat(first|((first|refine Dx ?_|refine Dy ?_);intro K hK;go_big_quiet_op;go_big_quiet_on)|((first|refine Dz ?_|refine EA ?_);simp only[Act.put,AB,AE,AF]))
   refine A0s ?_
   go_wp2_with fail
   refine(HN3.out _).mono ?_
   rintro e q ⟨rfl,hbq⟩
   have hBq:=hBp.trans (hbq.mono hBp.size)
   have hBXq:=hBXp.below' hbq
   have hBEq:=hBEp.below' hbq
   have y2q:=(hBq.cell (p:=⟨b,o+2,none⟩) hbw).trans c2
   have y3q:=(hBq.cell (p:=⟨b,o+3,none⟩) hbw).trans c3
   go_wp2_with fail
   refine ED HF1 ?_ ⟨y2q,y3q⟩
   repeat(first|((first|refine Dx ?_|refine Dy ?_);intro K hK;go_big_quiet_op;go_big_quiet_on)|((first|refine Dz ?_|refine EA ?_);simp only[Act.put,AB,AE,AF]))
   refine A2r ?_
   refine A0Y ?_
   have z0:=hBEq.frozen 0;have z1:=hBEq.frozen 1;have z2:=hBEq.frozen 2
   have z3:=hBEq.cell 0;have z4:=hBEq.cell 1;have z5:=hBEq.cell 2
   have hneg:w.heap.size≠a.heap.size:=hBXq.neH hBEq EF
   have hneg':¬a.heap.size=w.heap.size:=fun e=>hneg e.symm
   have hge:w.heap.size≤a.heap.size:=by have:=hGEp;omega
   have hgl:=hBEq.lt
   go_wp2_with fail
   refine A1n ?_
   refine A1z ?_
   have hW1:Below w.heap.size w (((q.setCell ⟨a.heap.size,0,none⟩ (.int .i64 V2)).setCell ⟨a.heap.size,1,none⟩ (.int .i64 V3)).setCell ⟨a.heap.size,2,none⟩ (.string ⟨#[]⟩)):=((hBq.setCell hge _).setCell hge _).setCell hge _
   have hX1:Blk (((q.setCell ⟨a.heap.size,0,none⟩ (.int .i64 V2)).setCell ⟨a.heap.size,1,none⟩ (.int .i64 V3)).setCell ⟨a.heap.size,2,none⟩ (.string ⟨#[]⟩)) w.heap.size 32 #[.int .i64 2,.int .i64 0,.string X1,.string ⟨#[]⟩,.slice none 0 0]:=((hBXq.far (Ne.symm hneg') _).far (Ne.symm hneg') _).far (Ne.symm hneg') _
   have hE1:Blk (((q.setCell ⟨a.heap.size,0,none⟩ (.int .i64 V2)).setCell ⟨a.heap.size,1,none⟩ (.int .i64 V3)).setCell ⟨a.heap.size,2,none⟩ (.string ⟨#[]⟩)) (a.heap.size) 95 #[.int .i64 V2,.int .i64 V3,.string ⟨#[]⟩]:=((hBEq.set_ 0 _).set_ 1 _).set_ 2 _
   clear HF1 z0 z1 z2 z3 z4 z5 hcell10 hcell11 hne1 hgl
   generalize((q.setCell ⟨a.heap.size,0,none⟩ (.int .i64 V2)).setCell ⟨a.heap.size,1,none⟩ (.int .i64 V3)).setCell ⟨a.heap.size,2,none⟩ (.string ⟨#[]⟩)=x1 at*
   have z2:=hE1.frozen 2
   have z3:=hE1.cell 0;have z4:=hE1.cell 1;have z5:=hE1.cell 2
   have z6:=hX1.frozen 4;have z7:=hX1.cell 4
   have hgl:=hE1.lt
   have hgx:=hX1.lt
   skip
   skip
   skip
   exact C0m
 ·skip
  go_wp2_with fail
  have hBp:Below w.heap.size w (w1.alloc (.cells #[.int .i64 0,.int .i64 0,.string ⟨#[]⟩] 95)).drew:=hB1.alloc hB1.size _
  have hBXp:Blk (w1.alloc (.cells #[.int .i64 0,.int .i64 0,.string ⟨#[]⟩] 95)).drew w.heap.size 32 #[.int .i64 2,.int .i64 0,.string X1,.string ⟨#[]⟩,.slice none 0 0]:=hBX1.alloc (.cells #[.int .i64 0,.int .i64 0,.string ⟨#[]⟩] 95)
  have hBEp:Blk (w1.alloc (.cells #[.int .i64 0,.int .i64 0,.string ⟨#[]⟩] 95)).drew w1.heap.size 95 #[.int .i64 0,.int .i64 0,.string ⟨#[]⟩]:=Blk.new_ w1 _ _
  have hGEp:w.heap.size≤w1.heap.size:=hB1.size
  generalize(w1.alloc (.cells #[.int .i64 0,.int .i64 0,.string ⟨#[]⟩] 95)).drew=p at*
  have y2p:=(hBp.cell (p:=⟨b,o+2,none⟩) hbw).trans c2
  have y3p:=(hBp.cell (p:=⟨b,o+3,none⟩) hbw).trans c3
  refine ED HF1 ?_ ⟨y2p,y3p⟩
  repeat(first|((first|refine Dx ?_|refine Dy ?_);intro K hK;go_big_quiet_op;go_big_quiet_on)|((first|refine Dz ?_|refine EA ?_);simp only[Act.put,AB,AE,AF]))
  refine A0s ?_
  go_wp2_with fail
  refine(HN2.out _).mono ?_
  rintro e a ⟨rfl,hba⟩
  have hBa:=hBp.trans (hba.mono hBp.size)
  have hBXa:=hBXp.below' hba
  have hBEa:=hBEp.below' hba
  have y2a:=(hBa.cell (p:=⟨b,o+2,none⟩) hbw).trans c2
  have y3a:=(hBa.cell (p:=⟨b,o+3,none⟩) hbw).trans c3
  go_wp2_with fail
  refine ED HF1 ?_ ⟨y2a,y3a⟩
  repeat(first|((first|refine Dx ?_|refine Dy ?_);intro K hK;go_big_quiet_op;go_big_quiet_on)|((first|refine Dz ?_|refine EA ?_);simp only[Act.put,AB,AE,AF]))
  refine A0s ?_
  go_wp2_with fail
  refine(HN3.out _).mono ?_
  rintro e q ⟨rfl,hbq⟩
  have hBq:=hBa.trans (hbq.mono hBa.size)
  have hBXq:=hBXa.below' hbq
  have hBEq:=hBEa.below' hbq
  have y2q:=(hBq.cell (p:=⟨b,o+2,none⟩) hbw).trans c2
  have y3q:=(hBq.cell (p:=⟨b,o+3,none⟩) hbw).trans c3
  go_wp2_with fail
  refine ED HF1 ?_ ⟨y2q,y3q⟩
  repeat(first|((first|refine Dx ?_|refine Dy ?_);intro K hK;go_big_quiet_op;go_big_quiet_on)|((first|refine Dz ?_|refine EA ?_);simp only[Act.put,AB,AE,AF]))
  refine A2r ?_
  refine A0Y ?_
  have z0:=hBEq.frozen 0;have z1:=hBEq.frozen 1;have z2:=hBEq.frozen 2
  have z3:=hBEq.cell 0;have z4:=hBEq.cell 1;have z5:=hBEq.cell 2
  have hneg:w.heap.size≠w1.heap.size:=hBXq.neH hBEq EF
  have hneg':¬w1.heap.size=w.heap.size:=fun e=>hneg e.symm
  have hge:w.heap.size≤w1.heap.size:=by have:=hGEp;omega
  have hgl:=hBEq.lt
  go_wp2_with fail
  refine A1n ?_
  refine A1z ?_
  have hW1:Below w.heap.size w (((q.setCell ⟨w1.heap.size,0,none⟩ (.int .i64 V2)).setCell ⟨w1.heap.size,1,none⟩ (.int .i64 V3)).setCell ⟨w1.heap.size,2,none⟩ (.string ⟨#[]⟩)):=((hBq.setCell hge _).setCell hge _).setCell hge _
  have hX1:Blk (((q.setCell ⟨w1.heap.size,0,none⟩ (.int .i64 V2)).setCell ⟨w1.heap.size,1,none⟩ (.int .i64 V3)).setCell ⟨w1.heap.size,2,none⟩ (.string ⟨#[]⟩)) w.heap.size 32 #[.int .i64 2,.int .i64 0,.string X1,.string ⟨#[]⟩,.slice none 0 0]:=((hBXq.far (Ne.symm hneg') _).far (Ne.symm hneg') _).far (Ne.symm hneg') _
  have hE1:Blk (((q.setCell ⟨w1.heap.size,0,none⟩ (.int .i64 V2)).setCell ⟨w1.heap.size,1,none⟩ (.int .i64 V3)).setCell ⟨w1.heap.size,2,none⟩ (.string ⟨#[]⟩)) (w1.heap.size) 95 #[.int .i64 V2,.int .i64 V3,.string ⟨#[]⟩]:=((hBEq.set_ 0 _).set_ 1 _).set_ 2 _
  clear HF1 z0 z1 z2 z3 z4 z5 hcell10 hcell11 hne1 hgl
  generalize((q.setCell ⟨w1.heap.size,0,none⟩ (.int .i64 V2)).setCell ⟨w1.heap.size,1,none⟩ (.int .i64 V3)).setCell ⟨w1.heap.size,2,none⟩ (.string ⟨#[]⟩)=x1 at*
  have z2:=hE1.frozen 2
  have z3:=hE1.cell 0;have z4:=hE1.cell 1;have z5:=hE1.cell 2
  have z6:=hX1.frozen 4;have z7:=hX1.cell 4
  have hgl:=hE1.lt
  have hgx:=hX1.lt
  skip
  skip
  skip
  exact C0m
theorem B6H(a t:List UInt8)(b o c base gh gd:Nat)(v:Value)(ps:List Pc)(w:World)(hD:DkAt w base gh gd v ps)(hbw:b<w.heap.size)(ha:a.length≤4096)(htl:t.length≤4096)(ht:TabI w)(c0:w.cell? ⟨b,o,none⟩=some (.string (S A0V)))(c1:w.cell? ⟨b,o+1,none⟩=some (.string (S a)))(c2:w.cell? ⟨b,o+2,none⟩=some (.string (S t))):
 Calls Tryz.prog 96 #[.pointer (some ⟨gd,0,none⟩),.slice (some ⟨b,o,none⟩) 3 c] w (A3h w base gh v ps ⟨10,0,S a,S t,none,0,0,[]⟩):=by
 have q1:((S A0V).toList==[110,101,119])=false:=by rw[eqk];decide
 have q2:((S A0V).toList==[101,100,105,116])=false:=by rw[eqk];decide
 have q3:((S A0V).toList==[99,117,116])=false:=by rw[eqk];decide
 have q4:((S A0V).toList==[109,97,107,101])=true:=by rw[eqk];decide
 have za:(S a).size≤4096:=by rw[A0b];exact ha
 have zt:(S t).size≤4096:=by rw[A0b];exact htl
 generalize S A0V=X0 at*
 generalize S a=X1 at*
 generalize S t=X2 at*
 have HD:=AA hD
 have HT:=AA ht
 clear hD ht ha htl
 go_enter Tryz.func96,Tryz.ntmps96
 go_wp2_with fail
 have hB2:Below w.heap.size w (w.alloc (.cells #[.int .i64 10,.int .i64 0,.string X1,.string X2,.slice none 0 0] 32)):=Ds
 have hBX:Blk (w.alloc (.cells #[.int .i64 10,.int .i64 0,.string X1,.string X2,.slice none 0 0] 32)) w.heap.size 32 #[.int .i64 10,.int .i64 0,.string X1,.string X2,.slice none 0 0]:=Blk.new_ _ _ _
 have hg0:w.heap.size≤w.heap.size:=AD _
 generalize w.alloc (.cells #[.int .i64 10,.int .i64 0,.string X1,.string X2,.slice none 0 0] 32)=w2 at*
 have hok:∀W,Below w2.heap.size w2 W→DdOk W (HK gh v ps) ⟨10,0,X1,X2,none,0,0,[]⟩:=fun _ _=>A2L za zt
 have HB2:=AA hB2
 have HBX:=AA hBX
 have Hw.heap.size:=AA hg0
 have HD2:=AA (HD.out.below hB2)
 have HOK:=AA hok
 clear hB2 hBX hg0 hok
 have e0:=HD2.out.b.cell0
 have d0:=HBX.out.cell 0
 have d1:=HBX.out.cell 1
 have d2:=HBX.out.cell 2
 have d3:=HBX.out.cell 3
 have d4:=HBX.out.cell 4
 obtain⟨F1,HF1,hcell10,hcell11,hcell12,hcell13,hcell14,hcell15⟩:=cells6 ⟨gd,0,none⟩ (.pointer (some ⟨gh,0,none⟩)) ⟨w.heap.size,0,none⟩ (.int .i64 10) ⟨w.heap.size,1,none⟩ (.int .i64 0) ⟨w.heap.size,2,none⟩ (.string X1) ⟨w.heap.size,3,none⟩ (.string X2) ⟨w.heap.size,4,none⟩ (.slice none 0 0)
 refine EB [(0,true),(1,true),(2,true),(3,true),(4,true),(5,false),(6,true),(7,true),(8,true),(9,true),(10,true)] HF1 ?_
 intro hne1
 simp only[A0i,AT,AP,AR]
 repeat(first|((first|refine Dt ?_|refine Du ?_);intro K hK;go_big_quiet_op;go_big_quiet_on)|((first|refine Dv ?_|refine Dw ?_);simp only[Act.put,AB,AE,AF]))
 refine A0a ?_
 go_wp2_with fail
 have hbD:Below w2.heap.size w2 w2.drew:=(AI _ _).drew
 have hdo:=A2j ⟨10,0,X1,X2,none,0,0,[]⟩ base gh v ps w2.drew (HD2.out.h.below hbD) HD2.out.o (AQ HD2.out.s hbD.size) (HOK.out _ hbD) (A0c HT.out (HB2.out.drew))
 unfold A0Z Dd.val at hdo
 simp only at hdo
 refine hdo.mono ?_
 clear hdo
 rintro e w3 ⟨rfl,hto⟩
 obtain⟨v3,ps3,hd3,_,_⟩:=(HD2.out.below hbD).to hto (HD2.out.o.step _)
 have hbx3:=(HBX.out.drew).chgH hto.chg (A2d HD.out.h (by have:=Hw.heap.size.out;omega))
 have HTO:=AA (HsTo.pre (HB2.out.drew) hto)
 clear hto
 have e0':=hd3.b.cell0
 have d0':=hbx3.cell 0;have d1':=hbx3.cell 1;have d2':=hbx3.cell 2;have d3':=hbx3.cell 3;have d4':=hbx3.cell 4
 clear hd3 hbx3 hbD
 go_wp2_with fail
 refine ED HF1 ?_ ⟨e0',d0',d1',d2',d3',d4'⟩
 repeat(first|((first|refine Dt ?_|refine Du ?_);intro K hK;go_big_quiet_op;go_big_quiet_on)|((first|refine Dv ?_|refine Dw ?_);simp only[Act.put,AB,AE,AF]))
 refine A0g ?_
 clear HF1 e0 d0 d1 d2 d3 d4 e0' d0' d1' d2' d3' d4' hcell10 hcell11 hcell12 hcell13 hcell14 hcell15 hne1
 have HA1:=AA (A2k (P:=ps.map Pc.s) (x:=⟨10,0,X1,X2,none,0,0,[]⟩))
 have HA2:=AA (A2P (P:=ps.map Pc.s) (x:=⟨10,0,X1,X2,none,0,0,[]⟩))
 have HTL:=AA (A1o HD.out.o ⟨10,0,X1,X2,none,0,0,[]⟩)
 generalize hsE (ps.map Pc.s) ⟨10,0,X1,X2,none,0,0,[]⟩=E at*
 generalize hsT (ps.map Pc.s) ⟨10,0,X1,X2,none,0,0,[]⟩=T at*
 exact C0A
theorem B6I(a:List UInt8)(b o c base gh gd:Nat)(v:Value)(ps:List Pc)(w:World)(hD:DkAt w base gh gd v ps)(ha:a.length≤4096)(ht:TabI w)(c0:w.cell? ⟨b,o,none⟩=some (.string (S A0Q)))(c1:w.cell? ⟨b,o+1,none⟩=some (.string (S a))):
 Calls Tryz.prog 96 #[.pointer (some ⟨gd,0,none⟩),.slice (some ⟨b,o,none⟩) 2 c] w (A3h w base gh v ps ⟨3,0,S a,⟨#[]⟩,none,0,0,[]⟩):=by
 have q1:((S A0Q).toList==[110,101,119])=false:=by rw[eqk];decide
 have q2:((S A0Q).toList==[101,100,105,116])=false:=by rw[eqk];decide
 have q3:((S A0Q).toList==[99,117,116])=false:=by rw[eqk];decide
 have q4:((S A0Q).toList==[109,97,107,101])=false:=by rw[eqk];decide
 have q5:((S A0Q).toList==[117,110,100,111])=true:=by rw[eqk];decide
 have za:(S a).size≤4096:=by rw[A0b];exact ha
 generalize S A0Q=X0 at*
 generalize S a=X1 at*
 have HD:=AA hD
 have HT:=AA ht
 clear hD ht ha
 go_enter Tryz.func96,Tryz.ntmps96
 go_wp2_with fail
 have hB2:Below w.heap.size w (w.alloc (.cells #[.int .i64 3,.int .i64 0,.string X1,.string ⟨#[]⟩,.slice none 0 0] 32)):=Ds
 have hBX:Blk (w.alloc (.cells #[.int .i64 3,.int .i64 0,.string X1,.string ⟨#[]⟩,.slice none 0 0] 32)) w.heap.size 32 #[.int .i64 3,.int .i64 0,.string X1,.string ⟨#[]⟩,.slice none 0 0]:=Blk.new_ _ _ _
 have hg0:w.heap.size≤w.heap.size:=AD _
 generalize w.alloc (.cells #[.int .i64 3,.int .i64 0,.string X1,.string ⟨#[]⟩,.slice none 0 0] 32)=w2 at*
 have hok:∀W,Below w2.heap.size w2 W→DdOk W (HK gh v ps) ⟨3,0,X1,⟨#[]⟩,none,0,0,[]⟩:=fun _ _=>A2L za A3q
 have HB2:=AA hB2
 have HBX:=AA hBX
 have Hw.heap.size:=AA hg0
 have HD2:=AA (HD.out.below hB2)
 have HOK:=AA hok
 clear hB2 hBX hg0 hok
 have e0:=HD2.out.b.cell0
 have d0:=HBX.out.cell 0
 have d1:=HBX.out.cell 1
 have d2:=HBX.out.cell 2
 have d3:=HBX.out.cell 3
 have d4:=HBX.out.cell 4
 obtain⟨F1,HF1,hcell10,hcell11,hcell12,hcell13,hcell14,hcell15⟩:=cells6 ⟨gd,0,none⟩ (.pointer (some ⟨gh,0,none⟩)) ⟨w.heap.size,0,none⟩ (.int .i64 3) ⟨w.heap.size,1,none⟩ (.int .i64 0) ⟨w.heap.size,2,none⟩ (.string X1) ⟨w.heap.size,3,none⟩ (.string ⟨#[]⟩) ⟨w.heap.size,4,none⟩ (.slice none 0 0)
 refine EB [(0,true),(1,true),(2,true),(3,true),(4,true),(5,false),(6,true),(7,true),(8,true),(9,true),(10,true)] HF1 ?_
 intro hne1
 simp only[A0i,AT,AP,AR]
 repeat(first|((first|refine Dt ?_|refine Du ?_);intro K hK;go_big_quiet_op;go_big_quiet_on)|((first|refine Dv ?_|refine Dw ?_);simp only[Act.put,AB,AE,AF]))
 refine A0a ?_
 go_wp2_with fail
 have hbD:Below w2.heap.size w2 w2.drew:=(AI _ _).drew
 have hdo:=A2j ⟨3,0,X1,⟨#[]⟩,none,0,0,[]⟩ base gh v ps w2.drew (HD2.out.h.below hbD) HD2.out.o (AQ HD2.out.s hbD.size) (HOK.out _ hbD) (A0c HT.out (HB2.out.drew))
 unfold A0Z Dd.val at hdo
 simp only at hdo
 refine hdo.mono ?_
 clear hdo
 rintro e w3 ⟨rfl,hto⟩
 obtain⟨v3,ps3,hd3,_,_⟩:=(HD2.out.below hbD).to hto (HD2.out.o.step _)
 have hbx3:=(HBX.out.drew).chgH hto.chg (A2d HD.out.h (by have:=Hw.heap.size.out;omega))
 have HTO:=AA (HsTo.pre (HB2.out.drew) hto)
 clear hto
 have e0':=hd3.b.cell0
 have d0':=hbx3.cell 0;have d1':=hbx3.cell 1;have d2':=hbx3.cell 2;have d3':=hbx3.cell 3;have d4':=hbx3.cell 4
 clear hd3 hbx3 hbD
 go_wp2_with fail
 refine ED HF1 ?_ ⟨e0',d0',d1',d2',d3',d4'⟩
 repeat(first|((first|refine Dt ?_|refine Du ?_);intro K hK;go_big_quiet_op;go_big_quiet_on)|((first|refine Dv ?_|refine Dw ?_);simp only[Act.put,AB,AE,AF]))
 refine A0g ?_
 clear HF1 e0 d0 d1 d2 d3 d4 e0' d0' d1' d2' d3' d4' hcell10 hcell11 hcell12 hcell13 hcell14 hcell15 hne1
 have HA1:=AA (A2k (P:=ps.map Pc.s) (x:=⟨3,0,X1,⟨#[]⟩,none,0,0,[]⟩))
 have HA2:=AA (A2P (P:=ps.map Pc.s) (x:=⟨3,0,X1,⟨#[]⟩,none,0,0,[]⟩))
 have HTL:=AA (A1o HD.out.o ⟨3,0,X1,⟨#[]⟩,none,0,0,[]⟩)
 generalize hsE (ps.map Pc.s) ⟨3,0,X1,⟨#[]⟩,none,0,0,[]⟩=E at*
 generalize hsT (ps.map Pc.s) ⟨3,0,X1,⟨#[]⟩,none,0,0,[]⟩=T at*
 exact C0A
theorem B6J(a:List UInt8)(b o c base gh gd:Nat)(v:Value)(ps:List Pc)(w:World)(hD:DkAt w base gh gd v ps)(ha:a.length≤4096)(ht:TabI w)(c0:w.cell? ⟨b,o,none⟩=some (.string (S A0J)))(c1:w.cell? ⟨b,o+1,none⟩=some (.string (S a))):
 Calls Tryz.prog 96 #[.pointer (some ⟨gd,0,none⟩),.slice (some ⟨b,o,none⟩) 2 c] w (A3h w base gh v ps ⟨4,0,S a,⟨#[]⟩,none,0,0,[]⟩):=by
 have q1:((S A0J).toList==[110,101,119])=false:=by rw[eqk];decide
 have q2:((S A0J).toList==[101,100,105,116])=false:=by rw[eqk];decide
 have q3:((S A0J).toList==[99,117,116])=false:=by rw[eqk];decide
 have q4:((S A0J).toList==[109,97,107,101])=false:=by rw[eqk];decide
 have q5:((S A0J).toList==[117,110,100,111])=false:=by rw[eqk];decide
 have q6:((S A0J).toList==[114,101,100,111])=true:=by rw[eqk];decide
 have za:(S a).size≤4096:=by rw[A0b];exact ha
 generalize S A0J=X0 at*
 generalize S a=X1 at*
 have HD:=AA hD
 have HT:=AA ht
 clear hD ht ha
 go_enter Tryz.func96,Tryz.ntmps96
 go_wp2_with fail
 have hB2:Below w.heap.size w (w.alloc (.cells #[.int .i64 4,.int .i64 0,.string X1,.string ⟨#[]⟩,.slice none 0 0] 32)):=Ds
 have hBX:Blk (w.alloc (.cells #[.int .i64 4,.int .i64 0,.string X1,.string ⟨#[]⟩,.slice none 0 0] 32)) w.heap.size 32 #[.int .i64 4,.int .i64 0,.string X1,.string ⟨#[]⟩,.slice none 0 0]:=Blk.new_ _ _ _
 have hg0:w.heap.size≤w.heap.size:=AD _
 generalize w.alloc (.cells #[.int .i64 4,.int .i64 0,.string X1,.string ⟨#[]⟩,.slice none 0 0] 32)=w2 at*
 have hok:∀W,Below w2.heap.size w2 W→DdOk W (HK gh v ps) ⟨4,0,X1,⟨#[]⟩,none,0,0,[]⟩:=fun _ _=>A2L za A3q
 have HB2:=AA hB2
 have HBX:=AA hBX
 have Hw.heap.size:=AA hg0
 have HD2:=AA (HD.out.below hB2)
 have HOK:=AA hok
 clear hB2 hBX hg0 hok
 have e0:=HD2.out.b.cell0
 have d0:=HBX.out.cell 0
 have d1:=HBX.out.cell 1
 have d2:=HBX.out.cell 2
 have d3:=HBX.out.cell 3
 have d4:=HBX.out.cell 4
 obtain⟨F1,HF1,hcell10,hcell11,hcell12,hcell13,hcell14,hcell15⟩:=cells6 ⟨gd,0,none⟩ (.pointer (some ⟨gh,0,none⟩)) ⟨w.heap.size,0,none⟩ (.int .i64 4) ⟨w.heap.size,1,none⟩ (.int .i64 0) ⟨w.heap.size,2,none⟩ (.string X1) ⟨w.heap.size,3,none⟩ (.string ⟨#[]⟩) ⟨w.heap.size,4,none⟩ (.slice none 0 0)
 refine EB [(0,true),(1,true),(2,true),(3,true),(4,true),(5,false),(6,true),(7,true),(8,true),(9,true),(10,true)] HF1 ?_
 intro hne1
 simp only[A0i,AT,AP,AR]
 repeat(first|((first|refine Dt ?_|refine Du ?_);intro K hK;go_big_quiet_op;go_big_quiet_on)|((first|refine Dv ?_|refine Dw ?_);simp only[Act.put,AB,AE,AF]))
 refine A0a ?_
 go_wp2_with fail
 have hbD:Below w2.heap.size w2 w2.drew:=(AI _ _).drew
 have hdo:=A2j ⟨4,0,X1,⟨#[]⟩,none,0,0,[]⟩ base gh v ps w2.drew (HD2.out.h.below hbD) HD2.out.o (AQ HD2.out.s hbD.size) (HOK.out _ hbD) (A0c HT.out (HB2.out.drew))
 unfold A0Z Dd.val at hdo
 simp only at hdo
 refine hdo.mono ?_
 clear hdo
 rintro e w3 ⟨rfl,hto⟩
 obtain⟨v3,ps3,hd3,_,_⟩:=(HD2.out.below hbD).to hto (HD2.out.o.step _)
 have hbx3:=(HBX.out.drew).chgH hto.chg (A2d HD.out.h (by have:=Hw.heap.size.out;omega))
 have HTO:=AA (HsTo.pre (HB2.out.drew) hto)
 clear hto
 have e0':=hd3.b.cell0
 have d0':=hbx3.cell 0;have d1':=hbx3.cell 1;have d2':=hbx3.cell 2;have d3':=hbx3.cell 3;have d4':=hbx3.cell 4
 clear hd3 hbx3 hbD
 go_wp2_with fail
 refine ED HF1 ?_ ⟨e0',d0',d1',d2',d3',d4'⟩
 repeat(first|((first|refine Dt ?_|refine Du ?_);intro K hK;go_big_quiet_op;go_big_quiet_on)|((first|refine Dv ?_|refine Dw ?_);simp only[Act.put,AB,AE,AF]))
 refine A0g ?_
 clear HF1 e0 d0 d1 d2 d3 d4 e0' d0' d1' d2' d3' d4' hcell10 hcell11 hcell12 hcell13 hcell14 hcell15 hne1
 have HA1:=AA (A2k (P:=ps.map Pc.s) (x:=⟨4,0,X1,⟨#[]⟩,none,0,0,[]⟩))
 have HA2:=AA (A2P (P:=ps.map Pc.s) (x:=⟨4,0,X1,⟨#[]⟩,none,0,0,[]⟩))
 have HTL:=AA (A1o HD.out.o ⟨4,0,X1,⟨#[]⟩,none,0,0,[]⟩)
 generalize hsE (ps.map Pc.s) ⟨4,0,X1,⟨#[]⟩,none,0,0,[]⟩=E at*
 generalize hsT (ps.map Pc.s) ⟨4,0,X1,⟨#[]⟩,none,0,0,[]⟩=T at*
 exact C0A
theorem B6K(a:List UInt8)(b o c base gh gd:Nat)(v:Value)(ps:List Pc)(w:World)(hD:DkAt w base gh gd v ps)(ha:a.length≤4096)(ht:TabI w)(c0:w.cell? ⟨b,o,none⟩=some (.string (S A0E)))(c1:w.cell? ⟨b,o+1,none⟩=some (.string (S a))):
 Calls Tryz.prog 96 #[.pointer (some ⟨gd,0,none⟩),.slice (some ⟨b,o,none⟩) 2 c] w (A3h w base gh v ps ⟨5,0,S a,⟨#[]⟩,none,0,0,[]⟩):=by
 have q1:((S A0E).toList==[110,101,119])=false:=by rw[eqk];decide
 have q2:((S A0E).toList==[101,100,105,116])=false:=by rw[eqk];decide
 have q3:((S A0E).toList==[99,117,116])=false:=by rw[eqk];decide
 have q4:((S A0E).toList==[109,97,107,101])=false:=by rw[eqk];decide
 have q5:((S A0E).toList==[117,110,100,111])=false:=by rw[eqk];decide
 have q6:((S A0E).toList==[114,101,100,111])=false:=by rw[eqk];decide
 have q7:((S A0E).toList==[115,97,118,101])=true:=by rw[eqk];decide
 have za:(S a).size≤4096:=by rw[A0b];exact ha
 generalize S A0E=X0 at*
 generalize S a=X1 at*
 have HD:=AA hD
 have HT:=AA ht
 clear hD ht ha
 go_enter Tryz.func96,Tryz.ntmps96
 go_wp2_with fail
 have hB2:Below w.heap.size w (w.alloc (.cells #[.int .i64 5,.int .i64 0,.string X1,.string ⟨#[]⟩,.slice none 0 0] 32)):=Ds
 have hBX:Blk (w.alloc (.cells #[.int .i64 5,.int .i64 0,.string X1,.string ⟨#[]⟩,.slice none 0 0] 32)) w.heap.size 32 #[.int .i64 5,.int .i64 0,.string X1,.string ⟨#[]⟩,.slice none 0 0]:=Blk.new_ _ _ _
 have hg0:w.heap.size≤w.heap.size:=AD _
 generalize w.alloc (.cells #[.int .i64 5,.int .i64 0,.string X1,.string ⟨#[]⟩,.slice none 0 0] 32)=w2 at*
 have hok:∀W,Below w2.heap.size w2 W→DdOk W (HK gh v ps) ⟨5,0,X1,⟨#[]⟩,none,0,0,[]⟩:=fun _ _=>A2L za A3q
 have HB2:=AA hB2
 have HBX:=AA hBX
 have Hw.heap.size:=AA hg0
 have HD2:=AA (HD.out.below hB2)
 have HOK:=AA hok
 clear hB2 hBX hg0 hok
 have e0:=HD2.out.b.cell0
 have d0:=HBX.out.cell 0
 have d1:=HBX.out.cell 1
 have d2:=HBX.out.cell 2
 have d3:=HBX.out.cell 3
 have d4:=HBX.out.cell 4
 obtain⟨F1,HF1,hcell10,hcell11,hcell12,hcell13,hcell14,hcell15⟩:=cells6 ⟨gd,0,none⟩ (.pointer (some ⟨gh,0,none⟩)) ⟨w.heap.size,0,none⟩ (.int .i64 5) ⟨w.heap.size,1,none⟩ (.int .i64 0) ⟨w.heap.size,2,none⟩ (.string X1) ⟨w.heap.size,3,none⟩ (.string ⟨#[]⟩) ⟨w.heap.size,4,none⟩ (.slice none 0 0)
 refine EB [(0,true),(1,true),(2,true),(3,true),(4,true),(5,false),(6,true),(7,true),(8,true),(9,true),(10,true)] HF1 ?_
 intro hne1
 simp only[A0i,AT,AP,AR]
 repeat(first|((first|refine Dt ?_|refine Du ?_);intro K hK;go_big_quiet_op;go_big_quiet_on)|((first|refine Dv ?_|refine Dw ?_);simp only[Act.put,AB,AE,AF]))
 refine A0a ?_
 go_wp2_with fail
 have hbD:Below w2.heap.size w2 w2.drew:=(AI _ _).drew
 have hdo:=A2j ⟨5,0,X1,⟨#[]⟩,none,0,0,[]⟩ base gh v ps w2.drew (HD2.out.h.below hbD) HD2.out.o (AQ HD2.out.s hbD.size) (HOK.out _ hbD) (A0c HT.out (HB2.out.drew))
 unfold A0Z Dd.val at hdo
 simp only at hdo
 refine hdo.mono ?_
 clear hdo
 rintro e w3 ⟨rfl,hto⟩
 obtain⟨v3,ps3,hd3,_,_⟩:=(HD2.out.below hbD).to hto (HD2.out.o.step _)
 have hbx3:=(HBX.out.drew).chgH hto.chg (A2d HD.out.h (by have:=Hw.heap.size.out;omega))
 have HTO:=AA (HsTo.pre (HB2.out.drew) hto)
 clear hto
 have e0':=hd3.b.cell0
 have d0':=hbx3.cell 0;have d1':=hbx3.cell 1;have d2':=hbx3.cell 2;have d3':=hbx3.cell 3;have d4':=hbx3.cell 4
 clear hd3 hbx3 hbD
 go_wp2_with fail
 refine ED HF1 ?_ ⟨e0',d0',d1',d2',d3',d4'⟩
 repeat(first|((first|refine Dt ?_|refine Du ?_);intro K hK;go_big_quiet_op;go_big_quiet_on)|((first|refine Dv ?_|refine Dw ?_);simp only[Act.put,AB,AE,AF]))
 refine A0g ?_
 clear HF1 e0 d0 d1 d2 d3 d4 e0' d0' d1' d2' d3' d4' hcell10 hcell11 hcell12 hcell13 hcell14 hcell15 hne1
 have HA1:=AA (A2k (P:=ps.map Pc.s) (x:=⟨5,0,X1,⟨#[]⟩,none,0,0,[]⟩))
 have HA2:=AA (A2P (P:=ps.map Pc.s) (x:=⟨5,0,X1,⟨#[]⟩,none,0,0,[]⟩))
 have HTL:=AA (A1o HD.out.o ⟨5,0,X1,⟨#[]⟩,none,0,0,[]⟩)
 generalize hsE (ps.map Pc.s) ⟨5,0,X1,⟨#[]⟩,none,0,0,[]⟩=E at*
 generalize hsT (ps.map Pc.s) ⟨5,0,X1,⟨#[]⟩,none,0,0,[]⟩=T at*
 exact C0A
theorem B6L(a t:List UInt8)(b o c base gh gd:Nat)(v:Value)(ps:List Pc)(w:World)(hD:DkAt w base gh gd v ps)(hbw:b<w.heap.size)(ha:a.length≤4096)(htl:t.length≤4096)(hd:dig3 t=true)(ht:TabI w)(c0:w.cell? ⟨b,o,none⟩=some (.string (S A0o)))(c1:w.cell? ⟨b,o+1,none⟩=some (.string (S a)))(c2:w.cell? ⟨b,o+2,none⟩=some (.string (S t))):
 Calls Tryz.prog 96 #[.pointer (some ⟨gd,0,none⟩),.slice (some ⟨b,o,none⟩) 3 c] w (A3h w base gh v ps ⟨6,(numV t:Int),S a,⟨#[]⟩,none,0,0,[]⟩):=by
 have q1:((S A0o).toList==[110,101,119])=false:=by rw[eqk];decide
 have q2:((S A0o).toList==[101,100,105,116])=false:=by rw[eqk];decide
 have q3:((S A0o).toList==[99,117,116])=false:=by rw[eqk];decide
 have q4:((S A0o).toList==[109,97,107,101])=false:=by rw[eqk];decide
 have q5:((S A0o).toList==[117,110,100,111])=false:=by rw[eqk];decide
 have q6:((S A0o).toList==[114,101,100,111])=false:=by rw[eqk];decide
 have q7:((S A0o).toList==[115,97,118,101])=false:=by rw[eqk];decide
 have q8:((S A0o).toList==[112,97,99,107])=true:=by rw[eqk];decide
 have za:(S a).size≤4096:=by rw[A0b];exact ha
 have zt:(S t).size≤4096:=by rw[A0b];exact htl
 have HN:=AA (fun W=>A0F (S t) W EE)
 rw[L_S] at HN
 generalize S A0o=X0 at*
 generalize S a=X1 at*
 generalize S t=X2 at*
 have HV:Hid (A1U t= .returned (.int .i64 (numV t:Int))):=by unfold Hid A1U;rw[if_pos hd]
 rw[HV.out] at HN
 generalize((numV t:Nat):Int)=V at*
 have HD:=AA hD
 have HT:=AA ht
 clear hD ht ha htl hd HV
 go_enter Tryz.func96,Tryz.ntmps96
 go_wp2_with fail
 have hB1:Below w.heap.size w (w.alloc (.cells #[.int .i64 6,.int .i64 0,.string X1,.string ⟨#[]⟩,.slice none 0 0] 32)):=Ds
 have hBX1:Blk (w.alloc (.cells #[.int .i64 6,.int .i64 0,.string X1,.string ⟨#[]⟩,.slice none 0 0] 32)) w.heap.size 32 #[.int .i64 6,.int .i64 0,.string X1,.string ⟨#[]⟩,.slice none 0 0]:=Blk.new_ _ _ _
 generalize w.alloc (.cells #[.int .i64 6,.int .i64 0,.string X1,.string ⟨#[]⟩,.slice none 0 0] 32)=w1 at*
 refine(HN.out _).mono ?_
 rintro e w1' ⟨rfl,hbn⟩
 have hB1':=hB1.trans (hbn.mono hB1.size)
 have hBX1':=hBX1.below' hbn
 clear hB1 hBX1 hbn
 have hf0:=hBX1'.frozen 1
 have hf1:=hBX1'.cell 1
 go_wp2_with fail
 have hB2:Below w.heap.size w (w1'.setCell ⟨w.heap.size,1,none⟩ (.int .i64 V)):=hB1'.setCell (AD _) _
 have hBX:Blk (w1'.setCell ⟨w.heap.size,1,none⟩ (.int .i64 V)) w.heap.size 32 #[.int .i64 6,.int .i64 V,.string X1,.string ⟨#[]⟩,.slice none 0 0]:=hBX1'.set_ 1 _
 have hg0:w.heap.size≤w.heap.size:=AD _
 clear hf0 hf1 hB1' hBX1'
 generalize w1'.setCell ⟨w.heap.size,1,none⟩ (.int .i64 V)=w2 at*
 have hok:∀W,Below w2.heap.size w2 W→DdOk W (HK gh v ps) ⟨6,V,X1,⟨#[]⟩,none,0,0,[]⟩:=fun _ _=>A2L za A3q
 have HB2:=AA hB2
 have HBX:=AA hBX
 have Hw.heap.size:=AA hg0
 have HD2:=AA (HD.out.below hB2)
 have HOK:=AA hok
 clear hB2 hBX hg0 hok
 have e0:=HD2.out.b.cell0
 have d0:=HBX.out.cell 0
 have d1:=HBX.out.cell 1
 have d2:=HBX.out.cell 2
 have d3:=HBX.out.cell 3
 have d4:=HBX.out.cell 4
 obtain⟨F1,HF1,hcell10,hcell11,hcell12,hcell13,hcell14,hcell15⟩:=cells6 ⟨gd,0,none⟩ (.pointer (some ⟨gh,0,none⟩)) ⟨w.heap.size,0,none⟩ (.int .i64 6) ⟨w.heap.size,1,none⟩ (.int .i64 V) ⟨w.heap.size,2,none⟩ (.string X1) ⟨w.heap.size,3,none⟩ (.string ⟨#[]⟩) ⟨w.heap.size,4,none⟩ (.slice none 0 0)
 refine EB [(0,true),(1,true),(2,true),(3,true),(4,true),(5,false),(6,true),(7,true),(8,true),(9,true),(10,true)] HF1 ?_
 intro hne1
 simp only[A0i,AT,AP,AR]
 repeat(first|((first|refine Dt ?_|refine Du ?_);intro K hK;go_big_quiet_op;go_big_quiet_on)|((first|refine Dv ?_|refine Dw ?_);simp only[Act.put,AB,AE,AF]))
 refine A0a ?_
 go_wp2_with fail
 have hbD:Below w2.heap.size w2 w2.drew:=(AI _ _).drew
 have hdo:=A2j ⟨6,V,X1,⟨#[]⟩,none,0,0,[]⟩ base gh v ps w2.drew (HD2.out.h.below hbD) HD2.out.o (AQ HD2.out.s hbD.size) (HOK.out _ hbD) (A0c HT.out (HB2.out.drew))
 unfold A0Z Dd.val at hdo
 simp only at hdo
 refine hdo.mono ?_
 clear hdo
 rintro e w3 ⟨rfl,hto⟩
 obtain⟨v3,ps3,hd3,_,_⟩:=(HD2.out.below hbD).to hto (HD2.out.o.step _)
 have hbx3:=(HBX.out.drew).chgH hto.chg (A2d HD.out.h (by have:=Hw.heap.size.out;omega))
 have HTO:=AA (HsTo.pre (HB2.out.drew) hto)
 clear hto
 have e0':=hd3.b.cell0
 have d0':=hbx3.cell 0;have d1':=hbx3.cell 1;have d2':=hbx3.cell 2;have d3':=hbx3.cell 3;have d4':=hbx3.cell 4
 clear hd3 hbx3 hbD
 go_wp2_with fail
 refine ED HF1 ?_ ⟨e0',d0',d1',d2',d3',d4'⟩
 repeat(first|((first|refine Dt ?_|refine Du ?_);intro K hK;go_big_quiet_op;go_big_quiet_on)|((first|refine Dv ?_|refine Dw ?_);simp only[Act.put,AB,AE,AF]))
 refine A0g ?_
 clear HF1 e0 d0 d1 d2 d3 d4 e0' d0' d1' d2' d3' d4' hcell10 hcell11 hcell12 hcell13 hcell14 hcell15 hne1
 have HA1:=AA (A2k (P:=ps.map Pc.s) (x:=⟨6,V,X1,⟨#[]⟩,none,0,0,[]⟩))
 have HA2:=AA (A2P (P:=ps.map Pc.s) (x:=⟨6,V,X1,⟨#[]⟩,none,0,0,[]⟩))
 have HTL:=AA (A1o HD.out.o ⟨6,V,X1,⟨#[]⟩,none,0,0,[]⟩)
 generalize hsE (ps.map Pc.s) ⟨6,V,X1,⟨#[]⟩,none,0,0,[]⟩=E at*
 generalize hsT (ps.map Pc.s) ⟨6,V,X1,⟨#[]⟩,none,0,0,[]⟩=T at*
 exact C0A
theorem B1b(a t:List UInt8)(b o c gd:Nat)(w:World)(hbw:b<w.heap.size)(htl:t.length≤4096)(hd:dig3 t=false)(c0:w.cell? ⟨b,o,none⟩=some (.string (S A0o)))(c1:w.cell? ⟨b,o+1,none⟩=some (.string (S a)))(c2:w.cell? ⟨b,o+2,none⟩=some (.string (S t))):
 Calls Tryz.prog 96 #[.pointer (some ⟨gd,0,none⟩),.slice (some ⟨b,o,none⟩) 3 c] w (fun e w'=>e= .panicked [{v:=refV 12,recovered:=false}]∧Below w.heap.size w w'):=by
 have q1:((S A0o).toList==[110,101,119])=false:=by rw[eqk];decide
 have q2:((S A0o).toList==[101,100,105,116])=false:=by rw[eqk];decide
 have q3:((S A0o).toList==[99,117,116])=false:=by rw[eqk];decide
 have q4:((S A0o).toList==[109,97,107,101])=false:=by rw[eqk];decide
 have q5:((S A0o).toList==[117,110,100,111])=false:=by rw[eqk];decide
 have q6:((S A0o).toList==[114,101,100,111])=false:=by rw[eqk];decide
 have q7:((S A0o).toList==[115,97,118,101])=false:=by rw[eqk];decide
 have q8:((S A0o).toList==[112,97,99,107])=true:=by rw[eqk];decide
 have zt:(S t).size≤4096:=by rw[A0b];exact htl
 have HN:=AA (fun W=>A0F (S t) W EE)
 rw[L_S] at HN
 generalize S A0o=X0 at*
 generalize S a=X1 at*
 generalize S t=X2 at*
 rw[A3D hd] at HN
 have HU:Hid (A3K 12= .panicked [{v:=refV 12,recovered:=false}]):=rfl
 rw[HU.out] at HN
 clear htl hd
 go_enter Tryz.func96,Tryz.ntmps96
 go_wp2_with fail
 have hB1:Below w.heap.size w (w.alloc (.cells #[.int .i64 6,.int .i64 0,.string X1,.string ⟨#[]⟩,.slice none 0 0] 32)):=Ds
 generalize w.alloc (.cells #[.int .i64 6,.int .i64 0,.string X1,.string ⟨#[]⟩,.slice none 0 0] 32)=w1 at*
 exact C1J
theorem B4N(a t:List UInt8)(b o c base gh gd:Nat)(v:Value)(ps:List Pc)(w:World)(hD:DkAt w base gh gd v ps)(hbw:b<w.heap.size)(ha:a.length≤4096)(htl:t.length≤4096)(hd:dig3 t=true)(ht:TabI w)(c0:w.cell? ⟨b,o,none⟩=some (.string (S A0j)))(c1:w.cell? ⟨b,o+1,none⟩=some (.string (S a)))(c2:w.cell? ⟨b,o+2,none⟩=some (.string (S t))):
 Calls Tryz.prog 96 #[.pointer (some ⟨gd,0,none⟩),.slice (some ⟨b,o,none⟩) 3 c] w (A3h w base gh v ps ⟨7,(numV t:Int),S a,⟨#[]⟩,none,0,0,[]⟩):=by
 have q1:((S A0j).toList==[110,101,119])=false:=by rw[eqk];decide
 have q2:((S A0j).toList==[101,100,105,116])=false:=by rw[eqk];decide
 have q3:((S A0j).toList==[99,117,116])=false:=by rw[eqk];decide
 have q4:((S A0j).toList==[109,97,107,101])=false:=by rw[eqk];decide
 have q5:((S A0j).toList==[117,110,100,111])=false:=by rw[eqk];decide
 have q6:((S A0j).toList==[114,101,100,111])=false:=by rw[eqk];decide
 have q7:((S A0j).toList==[115,97,118,101])=false:=by rw[eqk];decide
 have q8:((S A0j).toList==[112,97,99,107])=false:=by rw[eqk];decide
 have q9:((S A0j).toList==[99,114,97,115,104])=true:=by rw[eqk];decide
 have za:(S a).size≤4096:=by rw[A0b];exact ha
 have zt:(S t).size≤4096:=by rw[A0b];exact htl
 have HN:=AA (fun W=>A0F (S t) W EE)
 rw[L_S] at HN
 generalize S A0j=X0 at*
 generalize S a=X1 at*
 generalize S t=X2 at*
 have HV:Hid (A1U t= .returned (.int .i64 (numV t:Int))):=by unfold Hid A1U;rw[if_pos hd]
 rw[HV.out] at HN
 generalize((numV t:Nat):Int)=V at*
 have HD:=AA hD
 have HT:=AA ht
 clear hD ht ha htl hd HV
 go_enter Tryz.func96,Tryz.ntmps96
 go_wp2_with fail
 have hB1:Below w.heap.size w (w.alloc (.cells #[.int .i64 7,.int .i64 0,.string X1,.string ⟨#[]⟩,.slice none 0 0] 32)):=Ds
 have hBX1:Blk (w.alloc (.cells #[.int .i64 7,.int .i64 0,.string X1,.string ⟨#[]⟩,.slice none 0 0] 32)) w.heap.size 32 #[.int .i64 7,.int .i64 0,.string X1,.string ⟨#[]⟩,.slice none 0 0]:=Blk.new_ _ _ _
 generalize w.alloc (.cells #[.int .i64 7,.int .i64 0,.string X1,.string ⟨#[]⟩,.slice none 0 0] 32)=w1 at*
 refine(HN.out _).mono ?_
 rintro e w1' ⟨rfl,hbn⟩
 have hB1':=hB1.trans (hbn.mono hB1.size)
 have hBX1':=hBX1.below' hbn
 clear hB1 hBX1 hbn
 have hf0:=hBX1'.frozen 1
 have hf1:=hBX1'.cell 1
 go_wp2_with fail
 have hB2:Below w.heap.size w (w1'.setCell ⟨w.heap.size,1,none⟩ (.int .i64 V)):=hB1'.setCell (AD _) _
 have hBX:Blk (w1'.setCell ⟨w.heap.size,1,none⟩ (.int .i64 V)) w.heap.size 32 #[.int .i64 7,.int .i64 V,.string X1,.string ⟨#[]⟩,.slice none 0 0]:=hBX1'.set_ 1 _
 have hg0:w.heap.size≤w.heap.size:=AD _
 clear hf0 hf1 hB1' hBX1'
 generalize w1'.setCell ⟨w.heap.size,1,none⟩ (.int .i64 V)=w2 at*
 have hok:∀W,Below w2.heap.size w2 W→DdOk W (HK gh v ps) ⟨7,V,X1,⟨#[]⟩,none,0,0,[]⟩:=fun _ _=>A2L za A3q
 have HB2:=AA hB2
 have HBX:=AA hBX
 have Hw.heap.size:=AA hg0
 have HD2:=AA (HD.out.below hB2)
 have HOK:=AA hok
 clear hB2 hBX hg0 hok
 have e0:=HD2.out.b.cell0
 have d0:=HBX.out.cell 0
 have d1:=HBX.out.cell 1
 have d2:=HBX.out.cell 2
 have d3:=HBX.out.cell 3
 have d4:=HBX.out.cell 4
 obtain⟨F1,HF1,hcell10,hcell11,hcell12,hcell13,hcell14,hcell15⟩:=cells6 ⟨gd,0,none⟩ (.pointer (some ⟨gh,0,none⟩)) ⟨w.heap.size,0,none⟩ (.int .i64 7) ⟨w.heap.size,1,none⟩ (.int .i64 V) ⟨w.heap.size,2,none⟩ (.string X1) ⟨w.heap.size,3,none⟩ (.string ⟨#[]⟩) ⟨w.heap.size,4,none⟩ (.slice none 0 0)
 refine EB [(0,true),(1,true),(2,true),(3,true),(4,true),(5,false),(6,true),(7,true),(8,true),(9,true),(10,true)] HF1 ?_
 intro hne1
 simp only[A0i,AT,AP,AR]
 repeat(first|((first|refine Dt ?_|refine Du ?_);intro K hK;go_big_quiet_op;go_big_quiet_on)|((first|refine Dv ?_|refine Dw ?_);simp only[Act.put,AB,AE,AF]))
 refine A0a ?_
 go_wp2_with fail
 have hbD:Below w2.heap.size w2 w2.drew:=(AI _ _).drew
 have hdo:=A2j ⟨7,V,X1,⟨#[]⟩,none,0,0,[]⟩ base gh v ps w2.drew (HD2.out.h.below hbD) HD2.out.o (AQ HD2.out.s hbD.size) (HOK.out _ hbD) (A0c HT.out (HB2.out.drew))
 unfold A0Z Dd.val at hdo
 simp only at hdo
 refine hdo.mono ?_
 clear hdo
 rintro e w3 ⟨rfl,hto⟩
 obtain⟨v3,ps3,hd3,_,_⟩:=(HD2.out.below hbD).to hto (HD2.out.o.step _)
 have hbx3:=(HBX.out.drew).chgH hto.chg (A2d HD.out.h (by have:=Hw.heap.size.out;omega))
 have HTO:=AA (HsTo.pre (HB2.out.drew) hto)
 clear hto
 have e0':=hd3.b.cell0
 have d0':=hbx3.cell 0;have d1':=hbx3.cell 1;have d2':=hbx3.cell 2;have d3':=hbx3.cell 3;have d4':=hbx3.cell 4
 clear hd3 hbx3 hbD
 go_wp2_with fail
 refine ED HF1 ?_ ⟨e0',d0',d1',d2',d3',d4'⟩
 repeat(first|((first|refine Dt ?_|refine Du ?_);intro K hK;go_big_quiet_op;go_big_quiet_on)|((first|refine Dv ?_|refine Dw ?_);simp only[Act.put,AB,AE,AF]))
 refine A0g ?_
 clear HF1 e0 d0 d1 d2 d3 d4 e0' d0' d1' d2' d3' d4' hcell10 hcell11 hcell12 hcell13 hcell14 hcell15 hne1
 have HA1:=AA (A2k (P:=ps.map Pc.s) (x:=⟨7,V,X1,⟨#[]⟩,none,0,0,[]⟩))
 have HA2:=AA (A2P (P:=ps.map Pc.s) (x:=⟨7,V,X1,⟨#[]⟩,none,0,0,[]⟩))
 have HTL:=AA (A1o HD.out.o ⟨7,V,X1,⟨#[]⟩,none,0,0,[]⟩)
 generalize hsE (ps.map Pc.s) ⟨7,V,X1,⟨#[]⟩,none,0,0,[]⟩=E at*
 generalize hsT (ps.map Pc.s) ⟨7,V,X1,⟨#[]⟩,none,0,0,[]⟩=T at*
 exact C0A
theorem A9K(a t:List UInt8)(b o c gd:Nat)(w:World)(hbw:b<w.heap.size)(htl:t.length≤4096)(hd:dig3 t=false)(c0:w.cell? ⟨b,o,none⟩=some (.string (S A0j)))(c1:w.cell? ⟨b,o+1,none⟩=some (.string (S a)))(c2:w.cell? ⟨b,o+2,none⟩=some (.string (S t))):
 Calls Tryz.prog 96 #[.pointer (some ⟨gd,0,none⟩),.slice (some ⟨b,o,none⟩) 3 c] w (fun e w'=>e= .panicked [{v:=refV 12,recovered:=false}]∧Below w.heap.size w w'):=by
 have q1:((S A0j).toList==[110,101,119])=false:=by rw[eqk];decide
 have q2:((S A0j).toList==[101,100,105,116])=false:=by rw[eqk];decide
 have q3:((S A0j).toList==[99,117,116])=false:=by rw[eqk];decide
 have q4:((S A0j).toList==[109,97,107,101])=false:=by rw[eqk];decide
 have q5:((S A0j).toList==[117,110,100,111])=false:=by rw[eqk];decide
 have q6:((S A0j).toList==[114,101,100,111])=false:=by rw[eqk];decide
 have q7:((S A0j).toList==[115,97,118,101])=false:=by rw[eqk];decide
 have q8:((S A0j).toList==[112,97,99,107])=false:=by rw[eqk];decide
 have q9:((S A0j).toList==[99,114,97,115,104])=true:=by rw[eqk];decide
 have zt:(S t).size≤4096:=by rw[A0b];exact htl
 have HN:=AA (fun W=>A0F (S t) W EE)
 rw[L_S] at HN
 generalize S A0j=X0 at*
 generalize S a=X1 at*
 generalize S t=X2 at*
 rw[A3D hd] at HN
 have HU:Hid (A3K 12= .panicked [{v:=refV 12,recovered:=false}]):=rfl
 rw[HU.out] at HN
 clear htl hd
 go_enter Tryz.func96,Tryz.ntmps96
 go_wp2_with fail
 have hB1:Below w.heap.size w (w.alloc (.cells #[.int .i64 7,.int .i64 0,.string X1,.string ⟨#[]⟩,.slice none 0 0] 32)):=Ds
 generalize w.alloc (.cells #[.int .i64 7,.int .i64 0,.string X1,.string ⟨#[]⟩,.slice none 0 0] 32)=w1 at*
 exact C1J
theorem B6M(a:List UInt8)(b o c base gh gd:Nat)(v:Value)(ps:List Pc)(w:World)(hD:DkAt w base gh gd v ps)(ha:a.length≤4096)(ht:TabI w)(c0:w.cell? ⟨b,o,none⟩=some (.string (S A0y)))(c1:w.cell? ⟨b,o+1,none⟩=some (.string (S a))):
 Calls Tryz.prog 96 #[.pointer (some ⟨gd,0,none⟩),.slice (some ⟨b,o,none⟩) 2 c] w (A3h w base gh v ps ⟨8,0,S a,⟨#[]⟩,none,0,0,[]⟩):=by
 have q1:((S A0y).toList==[110,101,119])=false:=by rw[eqk];decide
 have q2:((S A0y).toList==[101,100,105,116])=false:=by rw[eqk];decide
 have q3:((S A0y).toList==[99,117,116])=false:=by rw[eqk];decide
 have q4:((S A0y).toList==[109,97,107,101])=false:=by rw[eqk];decide
 have q5:((S A0y).toList==[117,110,100,111])=false:=by rw[eqk];decide
 have q6:((S A0y).toList==[114,101,100,111])=false:=by rw[eqk];decide
 have q7:((S A0y).toList==[115,97,118,101])=false:=by rw[eqk];decide
 have q8:((S A0y).toList==[112,97,99,107])=false:=by rw[eqk];decide
 have q9:((S A0y).toList==[99,114,97,115,104])=false:=by rw[eqk];decide
 have q10:((S A0y).toList==[116,101,120,116])=true:=by rw[eqk];decide
 have za:(S a).size≤4096:=by rw[A0b];exact ha
 generalize S A0y=X0 at*
 generalize S a=X1 at*
 have HD:=AA hD
 have HT:=AA ht
 clear hD ht ha
 go_enter Tryz.func96,Tryz.ntmps96
 go_wp2_with fail
 have hB2:Below w.heap.size w (w.alloc (.cells #[.int .i64 8,.int .i64 0,.string X1,.string ⟨#[]⟩,.slice none 0 0] 32)):=Ds
 have hBX:Blk (w.alloc (.cells #[.int .i64 8,.int .i64 0,.string X1,.string ⟨#[]⟩,.slice none 0 0] 32)) w.heap.size 32 #[.int .i64 8,.int .i64 0,.string X1,.string ⟨#[]⟩,.slice none 0 0]:=Blk.new_ _ _ _
 have hg0:w.heap.size≤w.heap.size:=AD _
 generalize w.alloc (.cells #[.int .i64 8,.int .i64 0,.string X1,.string ⟨#[]⟩,.slice none 0 0] 32)=w2 at*
 have hok:∀W,Below w2.heap.size w2 W→DdOk W (HK gh v ps) ⟨8,0,X1,⟨#[]⟩,none,0,0,[]⟩:=fun _ _=>A2L za A3q
 have HB2:=AA hB2
 have HBX:=AA hBX
 have Hw.heap.size:=AA hg0
 have HD2:=AA (HD.out.below hB2)
 have HOK:=AA hok
 clear hB2 hBX hg0 hok
 have e0:=HD2.out.b.cell0
 have d0:=HBX.out.cell 0
 have d1:=HBX.out.cell 1
 have d2:=HBX.out.cell 2
 have d3:=HBX.out.cell 3
 have d4:=HBX.out.cell 4
 obtain⟨F1,HF1,hcell10,hcell11,hcell12,hcell13,hcell14,hcell15⟩:=cells6 ⟨gd,0,none⟩ (.pointer (some ⟨gh,0,none⟩)) ⟨w.heap.size,0,none⟩ (.int .i64 8) ⟨w.heap.size,1,none⟩ (.int .i64 0) ⟨w.heap.size,2,none⟩ (.string X1) ⟨w.heap.size,3,none⟩ (.string ⟨#[]⟩) ⟨w.heap.size,4,none⟩ (.slice none 0 0)
 refine EB [(0,true),(1,true),(2,true),(3,true),(4,true),(5,false),(6,true),(7,true),(8,true),(9,true),(10,true)] HF1 ?_
 intro hne1
 simp only[A0i,AT,AP,AR]
 repeat(first|((first|refine Dt ?_|refine Du ?_);intro K hK;go_big_quiet_op;go_big_quiet_on)|((first|refine Dv ?_|refine Dw ?_);simp only[Act.put,AB,AE,AF]))
 refine A0a ?_
 go_wp2_with fail
 have hbD:Below w2.heap.size w2 w2.drew:=(AI _ _).drew
 have hdo:=A2j ⟨8,0,X1,⟨#[]⟩,none,0,0,[]⟩ base gh v ps w2.drew (HD2.out.h.below hbD) HD2.out.o (AQ HD2.out.s hbD.size) (HOK.out _ hbD) (A0c HT.out (HB2.out.drew))
 unfold A0Z Dd.val at hdo
 simp only at hdo
 refine hdo.mono ?_
 clear hdo
 rintro e w3 ⟨rfl,hto⟩
 obtain⟨v3,ps3,hd3,_,_⟩:=(HD2.out.below hbD).to hto (HD2.out.o.step _)
 have hbx3:=(HBX.out.drew).chgH hto.chg (A2d HD.out.h (by have:=Hw.heap.size.out;omega))
 have HTO:=AA (HsTo.pre (HB2.out.drew) hto)
 clear hto
 have e0':=hd3.b.cell0
 have d0':=hbx3.cell 0;have d1':=hbx3.cell 1;have d2':=hbx3.cell 2;have d3':=hbx3.cell 3;have d4':=hbx3.cell 4
 clear hd3 hbx3 hbD
 go_wp2_with fail
 refine ED HF1 ?_ ⟨e0',d0',d1',d2',d3',d4'⟩
 repeat(first|((first|refine Dt ?_|refine Du ?_);intro K hK;go_big_quiet_op;go_big_quiet_on)|((first|refine Dv ?_|refine Dw ?_);simp only[Act.put,AB,AE,AF]))
 refine A0g ?_
 clear HF1 e0 d0 d1 d2 d3 d4 e0' d0' d1' d2' d3' d4' hcell10 hcell11 hcell12 hcell13 hcell14 hcell15 hne1
 have HA1:=AA (A2k (P:=ps.map Pc.s) (x:=⟨8,0,X1,⟨#[]⟩,none,0,0,[]⟩))
 have HA2:=AA (B4M (P:=ps.map Pc.s) (x:=⟨8,0,X1,⟨#[]⟩,none,0,0,[]⟩))
 have HTL:=AA (A1o HD.out.o ⟨8,0,X1,⟨#[]⟩,none,0,0,[]⟩)
 generalize hsE (ps.map Pc.s) ⟨8,0,X1,⟨#[]⟩,none,0,0,[]⟩=E at*
 generalize hsT (ps.map Pc.s) ⟨8,0,X1,⟨#[]⟩,none,0,0,[]⟩=T at*
 go_wp2_with fail
 by_cases hE:E=0
 ·subst hE
  refine(A5j _).mono ?_
  rintro e w4 ⟨rfl,rfl⟩
  have htl:=HTL.out
  clear HA1
  go_wp2_with fail
  (apply bodyPost_ret;(simp[results,Tryz.results96,go_sem];rfl);rfl)
  exact⟨(HA2.out (by first|trivial|rfl) (by first|trivial|exact rfl)).symm,HTO.out⟩
 ·exact C2L
theorem B6N(a:List UInt8)(b o c base gh gd:Nat)(v:Value)(ps:List Pc)(w:World)(hD:DkAt w base gh gd v ps)(ha:a.length≤4096)(ht:TabI w)(c0:w.cell? ⟨b,o,none⟩=some (.string (S A0w)))(c1:w.cell? ⟨b,o+1,none⟩=some (.string (S a))):
 Calls Tryz.prog 96 #[.pointer (some ⟨gd,0,none⟩),.slice (some ⟨b,o,none⟩) 2 c] w (A3h w base gh v ps ⟨9,0,S a,⟨#[]⟩,none,0,0,[]⟩):=by
 have q1:((S A0w).toList==[110,101,119])=false:=by rw[eqk];decide
 have q2:((S A0w).toList==[101,100,105,116])=false:=by rw[eqk];decide
 have q3:((S A0w).toList==[99,117,116])=false:=by rw[eqk];decide
 have q4:((S A0w).toList==[109,97,107,101])=false:=by rw[eqk];decide
 have q5:((S A0w).toList==[117,110,100,111])=false:=by rw[eqk];decide
 have q6:((S A0w).toList==[114,101,100,111])=false:=by rw[eqk];decide
 have q7:((S A0w).toList==[115,97,118,101])=false:=by rw[eqk];decide
 have q8:((S A0w).toList==[112,97,99,107])=false:=by rw[eqk];decide
 have q9:((S A0w).toList==[99,114,97,115,104])=false:=by rw[eqk];decide
 have q10:((S A0w).toList==[116,101,120,116])=false:=by rw[eqk];decide
 have q11:((S A0w).toList==[100,114,111,112])=true:=by rw[eqk];decide
 have za:(S a).size≤4096:=by rw[A0b];exact ha
 generalize S A0w=X0 at*
 generalize S a=X1 at*
 have HD:=AA hD
 have HT:=AA ht
 clear hD ht ha
 go_enter Tryz.func96,Tryz.ntmps96
 go_wp2_with fail
 have hB2:Below w.heap.size w (w.alloc (.cells #[.int .i64 9,.int .i64 0,.string X1,.string ⟨#[]⟩,.slice none 0 0] 32)):=Ds
 have hBX:Blk (w.alloc (.cells #[.int .i64 9,.int .i64 0,.string X1,.string ⟨#[]⟩,.slice none 0 0] 32)) w.heap.size 32 #[.int .i64 9,.int .i64 0,.string X1,.string ⟨#[]⟩,.slice none 0 0]:=Blk.new_ _ _ _
 have hg0:w.heap.size≤w.heap.size:=AD _
 generalize w.alloc (.cells #[.int .i64 9,.int .i64 0,.string X1,.string ⟨#[]⟩,.slice none 0 0] 32)=w2 at*
 have hok:∀W,Below w2.heap.size w2 W→DdOk W (HK gh v ps) ⟨9,0,X1,⟨#[]⟩,none,0,0,[]⟩:=fun _ _=>A2L za A3q
 have HB2:=AA hB2
 have HBX:=AA hBX
 have Hw.heap.size:=AA hg0
 have HD2:=AA (HD.out.below hB2)
 have HOK:=AA hok
 clear hB2 hBX hg0 hok
 have e0:=HD2.out.b.cell0
 have d0:=HBX.out.cell 0
 have d1:=HBX.out.cell 1
 have d2:=HBX.out.cell 2
 have d3:=HBX.out.cell 3
 have d4:=HBX.out.cell 4
 obtain⟨F1,HF1,hcell10,hcell11,hcell12,hcell13,hcell14,hcell15⟩:=cells6 ⟨gd,0,none⟩ (.pointer (some ⟨gh,0,none⟩)) ⟨w.heap.size,0,none⟩ (.int .i64 9) ⟨w.heap.size,1,none⟩ (.int .i64 0) ⟨w.heap.size,2,none⟩ (.string X1) ⟨w.heap.size,3,none⟩ (.string ⟨#[]⟩) ⟨w.heap.size,4,none⟩ (.slice none 0 0)
 refine EB [(0,true),(1,true),(2,true),(3,true),(4,true),(5,false),(6,true),(7,true),(8,true),(9,true),(10,true)] HF1 ?_
 intro hne1
 simp only[A0i,AT,AP,AR]
 repeat(first|((first|refine Dt ?_|refine Du ?_);intro K hK;go_big_quiet_op;go_big_quiet_on)|((first|refine Dv ?_|refine Dw ?_);simp only[Act.put,AB,AE,AF]))
 refine A0a ?_
 go_wp2_with fail
 have hbD:Below w2.heap.size w2 w2.drew:=(AI _ _).drew
 have hdo:=A2j ⟨9,0,X1,⟨#[]⟩,none,0,0,[]⟩ base gh v ps w2.drew (HD2.out.h.below hbD) HD2.out.o (AQ HD2.out.s hbD.size) (HOK.out _ hbD) (A0c HT.out (HB2.out.drew))
 unfold A0Z Dd.val at hdo
 simp only at hdo
 refine hdo.mono ?_
 clear hdo
 rintro e w3 ⟨rfl,hto⟩
 obtain⟨v3,ps3,hd3,_,_⟩:=(HD2.out.below hbD).to hto (HD2.out.o.step _)
 have hbx3:=(HBX.out.drew).chgH hto.chg (A2d HD.out.h (by have:=Hw.heap.size.out;omega))
 have HTO:=AA (HsTo.pre (HB2.out.drew) hto)
 clear hto
 have e0':=hd3.b.cell0
 have d0':=hbx3.cell 0;have d1':=hbx3.cell 1;have d2':=hbx3.cell 2;have d3':=hbx3.cell 3;have d4':=hbx3.cell 4
 clear hd3 hbx3 hbD
 go_wp2_with fail
 refine ED HF1 ?_ ⟨e0',d0',d1',d2',d3',d4'⟩
 repeat(first|((first|refine Dt ?_|refine Du ?_);intro K hK;go_big_quiet_op;go_big_quiet_on)|((first|refine Dv ?_|refine Dw ?_);simp only[Act.put,AB,AE,AF]))
 refine A0g ?_
 clear HF1 e0 d0 d1 d2 d3 d4 e0' d0' d1' d2' d3' d4' hcell10 hcell11 hcell12 hcell13 hcell14 hcell15 hne1
 have HA1:=AA (A2k (P:=ps.map Pc.s) (x:=⟨9,0,X1,⟨#[]⟩,none,0,0,[]⟩))
 have HA2:=AA (A2P (P:=ps.map Pc.s) (x:=⟨9,0,X1,⟨#[]⟩,none,0,0,[]⟩))
 have HTL:=AA (A1o HD.out.o ⟨9,0,X1,⟨#[]⟩,none,0,0,[]⟩)
 generalize hsE (ps.map Pc.s) ⟨9,0,X1,⟨#[]⟩,none,0,0,[]⟩=E at*
 generalize hsT (ps.map Pc.s) ⟨9,0,X1,⟨#[]⟩,none,0,0,[]⟩=T at*
 exact C0A
end Go.Proofs.YtplgghjdidmcfaaGreatDoor
