/- Written anew, smaller, by a program of our own out of our texts. No condition of our own. -/
import Derived.Test.YtplgghjdidmcfaaGreatDoorQ31
import Derived.Test.YtplgghjdidmcfaaGreatDoorQ28
set_option maxRecDepth 100000
set_option maxHeartbeats 16000000
set_option linter.all false
namespace Go.Proofs.YtplgghjdidmcfaaGreatDoor
open Go.RowKit
theorem C1r{P:Prop}(h:P:=by
 clear hk
 go_enter Tryz.func9,Tryz.ntmps9
 go_wp2_with fail
 (apply bodyPost_ret;(simp[results,Tryz.results9,go_sem];rfl);rfl)
 refine⟨A,c,rs, ?_,rfl,A7o Ds HRR.out⟩
 rw[HN.out]
 ):P:=h
theorem C0k{P:Prop}(h:P:=by
 have d1:w2.cell? ⟨w.heap.size+1,1,none⟩=some (.int .i64 xn):=HP.out.d.cell 1
 have d2:w2.cell? ⟨w.heap.size+1,2,none⟩=some (.string xnm):=HP.out.d.cell 2
 have d3:w2.cell? ⟨w.heap.size+1,3,none⟩=some (.string xt):=HP.out.d.cell 3
 have d4:w2.cell? ⟨w.heap.size+1,4,none⟩=some (.slice xA xm xc):=HP.out.d.cell 4
 have z0:w2.cell? ⟨w.heap.size+1+1,0,none⟩=some (.slice none 0 0):=HP.out.z.cell 0
 have zf0:=HP.out.z.frozen 0
 go_wp2_with fail
 (apply bodyPost_ret;(simp[results,Tryz.results9,go_sem,z0];rfl);rfl)
 refine⟨A,c,rs, ?_,rfl,A7o (bel1 HB2.out (le2 _)) HRR.out⟩
 rw[HN.out]
 ):P:=h
set_option linter.unusedSimpArgs false
theorem B9e(r:Rc)(x:Dd)(K:Nat→Prop)(w:World)(hf:RfOk w K r x)(hkk:x.kind=10):Calls Tryz.prog 37 #[r.val,x.val,.func (.func 10) #[] #[]] w (A2S w K r x):=by
 obtain⟨i0,hi0,hz0,hz1,hz2⟩:=info_parts A2C
 have hq:=pg10 (s:=r.s) hkk
 obtain⟨hr,hK,hok,hre,hxm,htb,⟨mx,hmx⟩,hmg⟩:=hf
 have HR:=AA hr
 have HOK:=AA hok
 have HRE:Hid (∀W,Below w.heap.size w W→Rd W w.heap.size 3 x.A x.m (A0f x.l)):=fun W hW=>hre.below hW
 have HTB:Hid (∀W,Below w.heap.size w W→TabI W):=fun W hW=>A0c htb hW
 have HMX:Hid (∀W,Below w.heap.size w W→W.cell? ⟨0,0,none⟩=some (.int .i64 mx)):=fun W hb=>(hb.cell (p:=⟨0,0,none⟩) hmg).trans hmx
 have HKK:=AA hK
 have HP3:=AA (A5A w r.arr x)
 have hbA:Below w.heap.size w (((w.alloc (.cells r.arr 82)).alloc (.cells x.cells 32)).alloc (.cells A1u 82)):=Ds
 have HBA:=AA hbA
 unfold A2S
 obtain⟨wA,hwA⟩:∃wA,wA=(((w.alloc (.cells r.arr 82)).alloc (.cells x.cells 32)).alloc (.cells A1u 82)):=⟨_,rfl⟩
 rw[←hwA] at HP3 HBA
 have HWA:=AA hwA
 clear hwA
 clear hr hK hok hre htb hmx hbA
 rw[hq.1,hq.2]
 clear hq
 have hn30:r.s.back.length+r.s.onward.length≤30:=HOK.out.es.n
 by_cases hz:mkE r.s.tx x.text=0
 ·have hPE:mkPE r.s x.text=edPE r.s (mkL r.s.tx x.text):=by unfold mkPE;rw[if_pos hz]
  have hPP:mkP r.s x.text=edP r.s (mkL r.s.tx x.text):=by unfold mkP;rw[if_pos hz]
  rw[hPE,hPP]
  clear hPE hPP
  have HMK:=AA (fun W=>A9H r.s.tx x.text W)
  rw[hz] at HMK
  clear hz
  obtain⟨M,hM⟩:∃M,M=mkL r.s.tx x.text:=⟨_,rfl⟩
  rw[←hM] at HMK⊢
  clear hM
  obtain⟨EX,hEX⟩:∃EX,EX=edPE r.s M:=⟨_,rfl⟩
  obtain⟨PX,hPX⟩:∃PX,PX=edP r.s M:=⟨_,rfl⟩
  rw[←hEX,←hPX]
  have HEX:=AA hEX
  have HPX:=AA hPX
  clear hEX hPX
  obtain⟨xk,xn,xnm,xt,xA,xm,xc,xl⟩:=x
  obtain⟨⟨rn,rtx,rd,rsf,rb,ro⟩,rAb,rcb,rAo,rco⟩:=r
  unfold Dd.val Rc.val
  unfold Rc.arr Dd.cells at HWA
  unfold Rc.arr at HP3
  simp only at*
  subst hkk
  obtain⟨nb,hnb⟩:∃nb,rb.length=nb:=⟨_,rfl⟩
  obtain⟨no,hno⟩:∃no,ro.length=no:=⟨_,rfl⟩
  rw[hnb,hno] at HP3 HWA⊢
  have HNB:=AA hnb
  have HNO:=AA hno
  clear hnb hno
  rw[HNB.out,HNO.out] at hn30
  have hrb:=HR.out.b
  simp only at hrb
  rw[HNB.out] at hrb
  have HRBK:Hid (∀W,Below w.heap.size w W→Rd W w.heap.size 1 rAb nb (strCells rb)):=fun W hW=>hrb.rd.below hW
  clear hrb
  go_enter Tryz.func37,Tryz.ntmps37
  go_wp2_with fail
  rw[←HWA.out]
  refine(HMK.out wA).mono ?_
  rintro e w4 ⟨v4,rfl,hv4,hb4⟩
  obtain⟨A4,c4,rfl,hn4,hm4,ho4⟩:=OwnO.form (hv4 trivial)
  have HEE0:=AA ho4
  have HEM:Hid (M.length≤9223372036854775807):=by unfold Hid;unfold maxLen at hm4;omega
  have HBE:=AA (HBA.out.trans (hb4.mono HBA.out.size))
  have HPQ:=AA (HP3.out.below hb4)
  have HP:=HPQ
  clear hv4 ho4 hb4 HMK
  have e0:=HP.out.p.cell 0;have e1:=HP.out.p.cell 1;have e2:=HP.out.p.cell 2;have e3:=HP.out.p.cell 3;have e4:=HP.out.p.cell 4;have e5:=HP.out.p.cell 5
  have ef0:=HP.out.p.frozen 0;have ef1:=HP.out.p.frozen 1;have ef2:=HP.out.p.frozen 2;have ef3:=HP.out.p.frozen 3;have ef4:=HP.out.p.frozen 4;have ef5:=HP.out.p.frozen 5
  have d1:w4.cell? ⟨w.heap.size+1,1,none⟩=some (.int .i64 xn):=HP.out.d.cell 1
  have d3:w4.cell? ⟨w.heap.size+1,3,none⟩=some (.string xt):=HP.out.d.cell 3
  have d4:w4.cell? ⟨w.heap.size+1,4,none⟩=some (.slice xA xm xc):=HP.out.d.cell 4
  have z0:w4.cell? ⟨w.heap.size+1+1,0,none⟩=some (.string ⟨#[]⟩):=HP.out.z.cell 0
  have z1:w4.cell? ⟨w.heap.size+1+1,1,none⟩=some (.string ⟨#[]⟩):=HP.out.z.cell 1
  have z2:w4.cell? ⟨w.heap.size+1+1,2,none⟩=some (.string ⟨#[]⟩):=HP.out.z.cell 2
  have z3:w4.cell? ⟨w.heap.size+1+1,3,none⟩=some (.int .i64 0):=HP.out.z.cell 3
  have z4:w4.cell? ⟨w.heap.size+1+1,4,none⟩=some (.slice none 0 0):=HP.out.z.cell 4
  have z5:w4.cell? ⟨w.heap.size+1+1,5,none⟩=some (.slice none 0 0):=HP.out.z.cell 5
  have zf0:=HP.out.z.frozen 0;have zf1:=HP.out.z.frozen 1;have zf2:=HP.out.z.frozen 2;have zf3:=HP.out.z.frozen 3;have zf4:=HP.out.z.frozen 4;have zf5:=HP.out.z.frozen 5
  by_cases hm0:M.length=0
  ·have HE:Hid (EX=5):=by unfold Hid;rw[HEX.out];unfold edPE;rw[if_pos hm0]
   have HPP:Hid (PX=⟨rn,rtx,rd,rsf,rb,ro⟩):=by
    unfold Hid;rw[HPX.out];unfold edP
    rw[if_neg (by rw[←HEX.out,HE.out];decide)]
   rw[hm0]
   go_wp2_with fail
   (apply bodyPost_ret;(simp[results,Tryz.results37,go_sem,z0,z1,z2,z3,z4,z5];rfl);rfl)
   refine⟨⟨⟨rn,rtx,rd,rsf,rb,ro⟩,rAb,rcb,rAo,rco⟩, ?_,HPP.out.symm,A3r (bel6 HBE.out (le2 _)) (fun W hW=>HR.out.below hW)⟩
   rw[HNB.out,HNO.out,HE.out]
  ·obtain⟨xm2,hx2⟩:∃xm2,xm2=M.length:=⟨_,rfl⟩
   rw[←hx2] at hm0 HEE0 HEM hn4⊢
   clear hx2
   have g0:((xm2:Int)==0)=false:=by rw[AH];omega
   have g0':(xm2==0)=false:=by rw[AH];exact hm0
   have HFS:Hid (∀{s:Ps},edP ⟨rn,rtx,rd,rsf,rb,ro⟩ M=s→s=PX):=fun h=>h.symm.trans HPX.out.symm
   have HFE:=HEX
   have HEE:Hid (Rd w4 w4.heap.size 3 A4 xm2 (A0f M)):=HEE0
   go_wp2_with fail
   clear e0 e1 e2 e3 e4 e5 ef0 ef1 ef2 ef3 ef4 ef5 d1 d3 d4 z0 z1 z2 z3 z4 z5 zf0 zf1 zf2 zf3 zf4 zf5
   have HLE:=AA (A9a rtx rd rsf M A4 xm2 c4 w4.heap.size w4 (HEE.out) (AD _) HEM.out (HTB.out w4 HBE.out) HOK.out.lf.size)
   have hlen:=Rd.rec_len A2v EE HEE.out
   by_cases hz:lfE rtx rd M=0
   ·have HZ:=AA hz
    have HPP:Hid (edP ⟨rn,rtx,rd,rsf,rb,ro⟩ M=⟨rn,lfT rtx rd M,lfD rtx rd M,rsf,(rb++ [L rtx]).drop (nb+1-30),[]⟩):=by
     unfold Hid edP
     rw[if_pos (by unfold edPE;rw[if_neg EE];exact hz)]
     show(⟨rn,lfT rtx rd M,lfD rtx rd M,rsf,(rb++ [L rtx]).drop (rb.length+1-30),[]⟩:Ps)=_
     rw[HNB.out]
    have HPE5:Hid (edPE ⟨rn,rtx,rd,rsf,rb,ro⟩ M=0):=by unfold Hid edPE;rw[if_neg EE];exact hz
    rw[hz] at HLE
    clear hz hlen
    generalize lfT rtx rd M=tx' at*
    generalize lfD rtx rd M=d' at*
    refine HLE.out.mono ?_
    rintro e w5 ⟨rfl,hb5⟩
    have HB5:=AA (HBE.out.trans (hb5.mono HBE.out.size))
    have HP5:=AA (HPQ.out.below hb5)
    have HB6:Hid (Below w.heap.size w (((w5.setCell ⟨w.heap.size,1,none⟩ (.string tx')).setCell ⟨w.heap.size,2,none⟩ (.string d')).setCell ⟨w.heap.size,3,none⟩ (.int .i64 (rsf:Int)))):=bel3 HB5.out
    have HP6:Hid (P3 (((w5.setCell ⟨w.heap.size,1,none⟩ (.string tx')).setCell ⟨w.heap.size,2,none⟩ (.string d')).setCell ⟨w.heap.size,3,none⟩ (.int .i64 (rsf:Int))) w.heap.size #[.string rn,.string tx',.string d',.int .i64 (rsf:Int),.slice rAb nb rcb,.slice rAo no rco] ⟨10,xn,xnm,xt,xA,xm,xc,xl⟩):=((HP5.out.set_ 1 _).set_ 2 _).set_ 3 _
    exact B9N
   ·have HN2:Hid (edPE ⟨rn,rtx,rd,rsf,rb,ro⟩ M=lfE rtx rd M∧edP ⟨rn,rtx,rd,rsf,rb,ro⟩ M=⟨rn,rtx,rd,rsf,rb,ro⟩):=by
     have h1:edPE ⟨rn,rtx,rd,rsf,rb,ro⟩ M=lfE rtx rd M:=by unfold edPE;rw[if_neg EE]
     exact⟨h1,by unfold edP;rw[if_neg (by rw[h1];exact hz)]⟩
    have hlt:lfT rtx rd M=rtx:=by unfold lfT;rw[if_neg hz]
    have hld:lfD rtx rd M=rd:=by unfold lfD;rw[if_neg hz]
    rw[hlt,hld] at HLE
    have g1:(lfE rtx rd M==0)=false:=by rw[AH];exact hz
    exact B9P
 ·have hPE:mkPE r.s x.text=mkE r.s.tx x.text:=by unfold mkPE;rw[if_neg hz]
  have hPP:mkP r.s x.text=r.s:=by unfold mkP;rw[if_neg hz]
  rw[hPE,hPP]
  clear hPE hPP
  have HMK:=AA (fun W=>A9H r.s.tx x.text W)
  obtain⟨EX,hEX⟩:∃EX,EX=mkE r.s.tx x.text:=⟨_,rfl⟩
  rw[←hEX] at HMK hz⊢
  clear hEX
  have hg1:(EX==0)=false:=by rw[AH];exact hz
  obtain⟨xk,xn,xnm,xt,xA,xm,xc,xl⟩:=x
  obtain⟨⟨rn,rtx,rd,rsf,rb,ro⟩,rAb,rcb,rAo,rco⟩:=r
  unfold Dd.val Rc.val
  unfold Rc.arr Dd.cells at HWA
  unfold Rc.arr at HP3
  simp only at*
  subst hkk
  obtain⟨nb,hnb⟩:∃nb,rb.length=nb:=⟨_,rfl⟩
  obtain⟨no,hno⟩:∃no,ro.length=no:=⟨_,rfl⟩
  rw[hnb,hno] at HP3 HWA⊢
  have HNB:=AA hnb
  have HNO:=AA hno
  clear hnb hno
  go_enter Tryz.func37,Tryz.ntmps37
  go_wp2_with fail
  rw[←HWA.out]
  refine(HMK.out wA).mono ?_
  rintro e w4 ⟨v4,rfl,hv4,hb4⟩
  have HBE:=AA (HBA.out.trans (hb4.mono HBA.out.size))
  have HP:=AA (HP3.out.below hb4)
  clear hv4 hb4 HMK
  have e0:=HP.out.p.cell 0;have e1:=HP.out.p.cell 1;have e2:=HP.out.p.cell 2;have e3:=HP.out.p.cell 3;have e4:=HP.out.p.cell 4;have e5:=HP.out.p.cell 5
  have ef0:=HP.out.p.frozen 0;have ef1:=HP.out.p.frozen 1;have ef2:=HP.out.p.frozen 2;have ef3:=HP.out.p.frozen 3;have ef4:=HP.out.p.frozen 4;have ef5:=HP.out.p.frozen 5
  have d1:w4.cell? ⟨w.heap.size+1,1,none⟩=some (.int .i64 xn):=HP.out.d.cell 1
  have d3:w4.cell? ⟨w.heap.size+1,3,none⟩=some (.string xt):=HP.out.d.cell 3
  have d4:w4.cell? ⟨w.heap.size+1,4,none⟩=some (.slice xA xm xc):=HP.out.d.cell 4
  have z0:w4.cell? ⟨w.heap.size+1+1,0,none⟩=some (.string ⟨#[]⟩):=HP.out.z.cell 0
  have z1:w4.cell? ⟨w.heap.size+1+1,1,none⟩=some (.string ⟨#[]⟩):=HP.out.z.cell 1
  have z2:w4.cell? ⟨w.heap.size+1+1,2,none⟩=some (.string ⟨#[]⟩):=HP.out.z.cell 2
  have z3:w4.cell? ⟨w.heap.size+1+1,3,none⟩=some (.int .i64 0):=HP.out.z.cell 3
  have z4:w4.cell? ⟨w.heap.size+1+1,4,none⟩=some (.slice none 0 0):=HP.out.z.cell 4
  have z5:w4.cell? ⟨w.heap.size+1+1,5,none⟩=some (.slice none 0 0):=HP.out.z.cell 5
  have zf0:=HP.out.z.frozen 0;have zf1:=HP.out.z.frozen 1;have zf2:=HP.out.z.frozen 2;have zf3:=HP.out.z.frozen 3;have zf4:=HP.out.z.frozen 4;have zf5:=HP.out.z.frozen 5
  go_wp2_with fail
  (apply bodyPost_ret;(simp[results,Tryz.results37,go_sem,z0,z1,z2,z3,z4,z5];rfl);rfl)
  refine⟨⟨⟨rn,rtx,rd,rsf,rb,ro⟩,rAb,rcb,rAo,rco⟩, ?_,rfl,A3r (bel6 HBE.out (le2 _)) (fun W hW=>HR.out.below hW)⟩
  rw[HNB.out,HNO.out]
theorem A8k(A:Option Addr)(n c B:Nat)(xs:List Value)(w:World)(hr:Rd w B 6 A n xs)(hB:B≤w.heap.size)(hx:∀u∈xs,u.oneCell'=true)(hn:n≤1000):
 Calls Tryz.prog 34 #[.slice A n c] w fun e w'=>∃v,e= .returned v∧w'.ownsRow w.heap.size 82 6 v n xs∧Below w.heap.size w w':=by
 obtain⟨i0,hi0,hz0,hz1,hz2⟩:=info_parts A7F
 have HR:=AA hr
 have HX:=AA hx;clear hx
 cases A with
 |none=>
  have h0:n=0:=by
   rcases BP n with h0|h0
   ·exact h0
   ·obtain⟨ad,h,_⟩:=hr.2 h0;cases h
  subst h0
  have hxs:xs=[]:=AU (by have:=hr.1;omega)
  subst hxs
  clear hr
  have hnil:=fun(W:World)=>Lib.run_eql_slice_nil (P:=Tryz.prog) W 27 82 none 0 c 0 0 Tryz.underlying27
  go_enter Tryz.func34,Tryz.ntmps34
  go_wp2_with fail
  go_ret
  exact⟨_,rfl,Ad _ _ _ _,AI _ _⟩
 |some ad=>
  clear hr
  have hnil:=fun(W:World)=>Lib.run_eql_slice_nil (P:=Tryz.prog) W 27 82 (some ad) n c 0 0 Tryz.underlying27
  go_enter Tryz.func34,Tryz.ntmps34
  go_wp2_with (at_builtin;go_must (refine A5l rfl _ _ _ rfl w.heap.size 82 i0 _ 6 104 Tryz.underlying27 hi0 hz0 hz1 hz2 rfl EE _ 0 [] rfl (World.ownsRow_lit w #[] 0 (AD _) (AS _) rfl) B (some ad) n c xs rfl (HR.out.alloc hB _) HX.out EE EE EH ?_);intro v6 w6 hown6 hb6)
  go_ret
  exact⟨v6,rfl,by simpa using hown6,((AI _ _).alloc (AD _) _).trans hb6⟩
theorem B6P(r:Rc)(x:Dd)(K:Nat→Prop)(w:World)(hf:RfOk w K r x)(h2:2≤x.kind)(h10:x.kind≤10)(h8:x.kind≠8)(h9:x.kind≠9):Calls Tryz.prog 37 #[r.val,x.val,.func (.func 10) #[] #[]] w (A2S w K r x):=by
 have hq:x.kind=2∨x.kind=3∨x.kind=4∨x.kind=5∨x.kind=6∨x.kind=7∨x.kind=10:=EE
 rcases hq with e|e|e|e|e|e|e
 ·exact refPg2 r x K w hf e
 ·exact refPg3 r x K w hf e
 ·exact refPg4 r x K w hf e
 ·exact refPg5 r x K w hf e
 ·exact refPg6 r x K w hf e
 ·exact refPg7 r x K w hf e
 ·exact B9e r x K w hf e
structure H3 (w:World) (g:Nat) (hv:Value) (x:Dd) (zv:Value):Prop where
 p:Blk w g 29 #[hv]
 d:Blk w (g+1) 32 x.cells
 z:Blk w (g+1+1) 29 #[zv]
section
variable {w w':World} {g:Nat} {hv zv:Value} {x:Dd}
theorem H3.below(h:H3 w g hv x zv)(hb:Below w.heap.size w w'):H3 w' g hv x zv:=⟨h.p.below' hb,h.d.below' hb,h.z.below' hb⟩
theorem H3.grown{row:Option Nat}(h:H3 w g hv x zv)(hb:w.grownBy w' row)(hg:∀k,row=some k→g+1+1<k):H3 w' g hv x zv:=⟨h.p.grown hb fun e=>by have:=hg _ e.symm;omega,h.d.grown hb fun e=>by have:=hg _ e.symm;omega,h.z.grown hb fun e=>by have:=hg _ e.symm;omega⟩
end
theorem A3M(w:World)(hv:Value)(x:Dd):H3 (((w.alloc (.cells #[hv] 29)).alloc (.cells x.cells 32)).alloc (.cells #[.slice none 0 0] 29)) w.heap.size hv x (.slice none 0 0):=by
 refine⟨((Blk.new_ _ _ _).alloc _).alloc _, ?_, ?_⟩
 ·have:=Blk.new_ (w.alloc (.cells #[hv] 29)) 32 x.cells
  rw[Ar] at this
  exact this.alloc _
 ·have:=Blk.new_ ((w.alloc (.cells #[hv] 29)).alloc (.cells x.cells 32)) 29 #[.slice none 0 0]
  rw[Ar,Ar] at this
  exact this
def A1v(w:World)(K:Nat→Prop)(rs:List Rc)(x:Dd)(e:Ending)(w':World):Prop:=
 ∃A' c' rs',e= .returned (.tuple #[.agg #[.slice A' rs'.length c'],.string (hsT (rs.map Rc.s) x),.int .i64 (hsE (rs.map Rc.s) x)])∧rs'.map Rc.s=hsP (rs.map Rc.s) x∧RhAt w' K A' c' rs'∧Below w.heap.size w w'
structure RoOk (w:World) (K:Nat→Prop) (A:Option Addr) (c:Nat) (rs:List Rc) (x:Dd):Prop where
 at_:RhAt w K A c rs
 k:∀k,K k→k<w.heap.size
 o:HsOk (rs.map Rc.s)
 nm:x.name.size≤9223372036854775807
 tx:x.text.size≤9223372036854775807
 e:Rd w w.heap.size 3 x.A x.m (A0f x.l)
 m:x.m≤9223372036854775807
 t:TabI w
 x:∃mx,w.cell? ⟨0,0,none⟩=some (.int .i64 mx)
 g:0<w.heap.size
theorem A7o{w WF:World}{K:Nat→Prop}{A:Option Addr}{c:Nat}{rs:List Rc}(hb:Below w.heap.size w WF)(h:∀W,Below w.heap.size w W→RhAt W K A c rs):RhAt WF K A c rs∧Below w.heap.size w WF:=⟨h WF hb,hb⟩
theorem B2x(A:Option Addr)(c:Nat)(rs:List Rc)(x:Dd)(K:Nat→Prop)(w:World)(hf:RoOk w K A c rs x)(hk:x.kind<1∨10<x.kind):Calls Tryz.prog 9 #[.agg #[.slice A rs.length c],x.val,.func (.func 10) #[] #[]] w (A1v w K rs x):=by
 obtain⟨hq1,hq2,hq3⟩:=B0u (P:=rs.map Rc.s) hk
 obtain⟨hr,hK,hok,hnm,htx,hre,hxm,htb,⟨mx,hmx⟩,hmg⟩:=hf
 have hn6:rs.length≤6:=by have:=hok.n;rwa[AW] at this
 have HOKP:=AA hok
 have HRR:Hid (∀W,Below w.heap.size w W→RhAt W K A c rs):=fun W hW=>hr.below hW
 have HKK:=AA hK
 have HRE:Hid (∀W,Below w.heap.size w W→Rd W w.heap.size 3 x.A x.m (A0f x.l)):=fun W hW=>hre.below hW
 have HTB:Hid (∀W,Below w.heap.size w W→TabI W):=fun W hW=>A0c htb hW
 have HMX:Hid (∀W,Below w.heap.size w W→W.cell? ⟨0,0,none⟩=some (.int .i64 mx)):=fun W hb=>(hb.cell (p:=⟨0,0,none⟩) hmg).trans hmx
 have HNM:=AA (fun W=>A1C x.name W hnm)
 have HID:=AA (fun W g (hW:Below w.heap.size w W) (hg:g<W.heap.size) (hc:W.cell? ⟨g,2,none⟩=some (.string x.name))=>A2p rs x.name A rs.length c w.heap.size g W (hr.row.rd.below hW) hW.size EE rfl hg hc)
 have HTX:=AA htx
 have HXM:=AA hxm
 have HH3:=AA (A3M w (.slice A rs.length c) x)
 have hbA:Below w.heap.size w (((w.alloc (.cells #[.slice A rs.length c] 29)).alloc (.cells x.cells 32)).alloc (.cells #[.slice none 0 0] 29)):=Ds
 have HBA:=AA hbA
 unfold A1v
 rw[hq1,hq2,hq3]
 obtain⟨wA,hwA⟩:∃wA,wA=(((w.alloc (.cells #[.slice A rs.length c] 29)).alloc (.cells x.cells 32)).alloc (.cells #[.slice none 0 0] 29)):=⟨_,rfl⟩
 rw[←hwA] at HH3 HBA
 have HWA:=AA hwA
 clear hwA hr hK hok hnm htx hre hxm htb hmx hbA hq1 hq2 hq3
 obtain⟨xk,xn,xnm,xt,xA,xm,xc,xl⟩:=x
 unfold Dd.val
 unfold Dd.cells at HWA
 simp only at*
 obtain⟨N,hN⟩:∃N,rs.length=N:=⟨_,rfl⟩
 rw[hN] at HH3 HWA HID hn6⊢
 have HN:=AA hN
 clear hN
 by_cases hk1:xk<1
 ·have g1:decide (xk<1)=true:=AG hk1
  exact C1r
 ·have g1:decide (xk<1)=false:=AC hk1
  have g2:decide (10<xk)=true:=AG EE
  exact C1r
theorem B2y(A:Option Addr)(c:Nat)(rs:List Rc)(x:Dd)(K:Nat→Prop)(w:World)(hf:RoOk w K A c rs x)(hk1:1≤x.kind)(hk10:x.kind≤10)(hn:A0K x.name=false):Calls Tryz.prog 9 #[.agg #[.slice A rs.length c],x.val,.func (.func 10) #[] #[]] w (A1v w K rs x):=by
 obtain⟨hq1,hq2,hq3⟩:=B0t (P:=rs.map Rc.s) hk1 hk10 hn
 obtain⟨hr,hK,hok,hnm,htx,hre,hxm,htb,⟨mx,hmx⟩,hmg⟩:=hf
 have hn6:rs.length≤6:=by have:=hok.n;rwa[AW] at this
 have HOKP:=AA hok
 have HRR:Hid (∀W,Below w.heap.size w W→RhAt W K A c rs):=fun W hW=>hr.below hW
 have HKK:=AA hK
 have HRE:Hid (∀W,Below w.heap.size w W→Rd W w.heap.size 3 x.A x.m (A0f x.l)):=fun W hW=>hre.below hW
 have HTB:Hid (∀W,Below w.heap.size w W→TabI W):=fun W hW=>A0c htb hW
 have HMX:Hid (∀W,Below w.heap.size w W→W.cell? ⟨0,0,none⟩=some (.int .i64 mx)):=fun W hb=>(hb.cell (p:=⟨0,0,none⟩) hmg).trans hmx
 have HNM:=AA (fun W=>A1C x.name W hnm)
 have HID:=AA (fun W g (hW:Below w.heap.size w W) (hg:g<W.heap.size) (hc:W.cell? ⟨g,2,none⟩=some (.string x.name))=>A2p rs x.name A rs.length c w.heap.size g W (hr.row.rd.below hW) hW.size EE rfl hg hc)
 have HTX:=AA htx
 have HXM:=AA hxm
 have HH3:=AA (A3M w (.slice A rs.length c) x)
 have hbA:Below w.heap.size w (((w.alloc (.cells #[.slice A rs.length c] 29)).alloc (.cells x.cells 32)).alloc (.cells #[.slice none 0 0] 29)):=Ds
 have HBA:=AA hbA
 unfold A1v
 rw[hq1,hq2,hq3]
 obtain⟨wA,hwA⟩:∃wA,wA=(((w.alloc (.cells #[.slice A rs.length c] 29)).alloc (.cells x.cells 32)).alloc (.cells #[.slice none 0 0] 29)):=⟨_,rfl⟩
 rw[←hwA] at HH3 HBA
 have HWA:=AA hwA
 clear hwA hr hK hok hnm htx hre hxm htb hmx hbA hq1 hq2 hq3
 rw[hn] at HNM
 obtain⟨xk,xn,xnm,xt,xA,xm,xc,xl⟩:=x
 unfold Dd.val
 unfold Dd.cells at HWA
 simp only at*
 obtain⟨N,hN⟩:∃N,rs.length=N:=⟨_,rfl⟩
 rw[hN] at HH3 HWA HID hn6⊢
 have HN:=AA hN
 clear hN
 have g1:decide (xk<1)=false:=AC EE
 have g2:decide (10<xk)=false:=AC EE
 go_enter Tryz.func9,Tryz.ntmps9
 go_wp2_with fail
 rw[←HWA.out]
 refine(HNM.out wA).mono ?_
 rintro e w1 ⟨rfl,hb1⟩
 have HB1:=AA (HBA.out.trans (hb1.mono HBA.out.size))
 have HP:=AA (HH3.out.below hb1)
 clear hb1
 have p0:w1.cell? ⟨w.heap.size,0,none⟩=some (.slice A N c):=HP.out.p.cell 0
 have d0:w1.cell? ⟨w.heap.size+1,0,none⟩=some (.int .i64 xk):=HP.out.d.cell 0
 have d1:w1.cell? ⟨w.heap.size+1,1,none⟩=some (.int .i64 xn):=HP.out.d.cell 1
 have d2:w1.cell? ⟨w.heap.size+1,2,none⟩=some (.string xnm):=HP.out.d.cell 2
 have d3:w1.cell? ⟨w.heap.size+1,3,none⟩=some (.string xt):=HP.out.d.cell 3
 have d4:w1.cell? ⟨w.heap.size+1,4,none⟩=some (.slice xA xm xc):=HP.out.d.cell 4
 have z0:w1.cell? ⟨w.heap.size+1+1,0,none⟩=some (.slice none 0 0):=HP.out.z.cell 0
 have zf0:=HP.out.z.frozen 0
 go_wp2_with fail
 (apply bodyPost_ret;(simp[results,Tryz.results9,go_sem,z0];rfl);rfl)
 refine⟨A,c,rs, ?_,rfl,A7o (bel1 HB1.out (le2 _)) HRR.out⟩
 rw[HN.out]
theorem B4O(A:Option Addr)(c:Nat)(rs:List Rc)(x:Dd)(K:Nat→Prop)(w:World)(hf:RoOk w K A c rs x)(hk2:2≤x.kind)(hk10:x.kind≤10)(hn:A0K x.name=true)(hi:¬fnd x.name (rs.map Rc.s)<(rs.map Rc.s).length):Calls Tryz.prog 9 #[.agg #[.slice A rs.length c],x.val,.func (.func 10) #[] #[]] w (A1v w K rs x):=by
 obtain⟨hq1,hq2,hq3⟩:=B3S (P:=rs.map Rc.s) hk2 hk10 hn hi
 have hz:=A8j hi
 obtain⟨hr,hK,hok,hnm,htx,hre,hxm,htb,⟨mx,hmx⟩,hmg⟩:=hf
 have hn6:rs.length≤6:=by have:=hok.n;rwa[AW] at this
 have HOKP:=AA hok
 have HRR:Hid (∀W,Below w.heap.size w W→RhAt W K A c rs):=fun W hW=>hr.below hW
 have HKK:=AA hK
 have HRE:Hid (∀W,Below w.heap.size w W→Rd W w.heap.size 3 x.A x.m (A0f x.l)):=fun W hW=>hre.below hW
 have HTB:Hid (∀W,Below w.heap.size w W→TabI W):=fun W hW=>A0c htb hW
 have HMX:Hid (∀W,Below w.heap.size w W→W.cell? ⟨0,0,none⟩=some (.int .i64 mx)):=fun W hb=>(hb.cell (p:=⟨0,0,none⟩) hmg).trans hmx
 have HNM:=AA (fun W=>A1C x.name W hnm)
 have HID:=AA (fun W g (hW:Below w.heap.size w W) (hg:g<W.heap.size) (hc:W.cell? ⟨g,2,none⟩=some (.string x.name))=>A2p rs x.name A rs.length c w.heap.size g W (hr.row.rd.below hW) hW.size EE rfl hg hc)
 have HTX:=AA htx
 have HXM:=AA hxm
 have HH3:=AA (A3M w (.slice A rs.length c) x)
 have hbA:Below w.heap.size w (((w.alloc (.cells #[.slice A rs.length c] 29)).alloc (.cells x.cells 32)).alloc (.cells #[.slice none 0 0] 29)):=Ds
 have HBA:=AA hbA
 unfold A1v
 rw[hq1,hq2,hq3]
 obtain⟨wA,hwA⟩:∃wA,wA=(((w.alloc (.cells #[.slice A rs.length c] 29)).alloc (.cells x.cells 32)).alloc (.cells #[.slice none 0 0] 29)):=⟨_,rfl⟩
 rw[←hwA] at HH3 HBA
 have HWA:=AA hwA
 clear hwA hr hK hok hnm htx hre hxm htb hmx hbA hq1 hq2 hq3
 rw[hn] at HNM
 rw[hz] at HID
 clear hz hi
 obtain⟨xk,xn,xnm,xt,xA,xm,xc,xl⟩:=x
 unfold Dd.val
 unfold Dd.cells at HWA
 simp only at*
 obtain⟨N,hN⟩:∃N,rs.length=N:=⟨_,rfl⟩
 rw[hN] at HH3 HWA HID hn6⊢
 have HN:=AA hN
 clear hN
 have g1:decide (xk<1)=false:=AC EE
 have g2:decide (10<xk)=false:=AC EE
 have g3:(xk==1)=false:=by rw[AH];omega
 go_enter Tryz.func9,Tryz.ntmps9
 go_wp2_with fail
 rw[←HWA.out]
 refine(HNM.out wA).mono ?_
 rintro e w1 ⟨rfl,hb1⟩
 have HB1:=AA (HBA.out.trans (hb1.mono HBA.out.size))
 have HP:=AA (HH3.out.below hb1)
 clear hb1
 have p0:w1.cell? ⟨w.heap.size,0,none⟩=some (.slice A N c):=HP.out.p.cell 0
 have d0:w1.cell? ⟨w.heap.size+1,0,none⟩=some (.int .i64 xk):=HP.out.d.cell 0
 have d1:w1.cell? ⟨w.heap.size+1,1,none⟩=some (.int .i64 xn):=HP.out.d.cell 1
 have d2:w1.cell? ⟨w.heap.size+1,2,none⟩=some (.string xnm):=HP.out.d.cell 2
 have d3:w1.cell? ⟨w.heap.size+1,3,none⟩=some (.string xt):=HP.out.d.cell 3
 have d4:w1.cell? ⟨w.heap.size+1,4,none⟩=some (.slice xA xm xc):=HP.out.d.cell 4
 have z0:w1.cell? ⟨w.heap.size+1+1,0,none⟩=some (.slice none 0 0):=HP.out.z.cell 0
 have zf0:=HP.out.z.frozen 0
 have hg1:w.heap.size+1<w1.heap.size:=HP.out.d.lt
 go_wp2_with fail
 refine(HID.out w1 _ HB1.out hg1 d2).mono ?_
 rintro e w2 ⟨rfl,hb2⟩
 have HB2:=AA (HB1.out.trans (hb2.mono HB1.out.size))
 have HP2:=AA (HP.out.below hb2)
 clear p0 d0 d1 d2 d3 d4 z0 zf0
 clear HP hb2 HID HNM hg1
 have HP:=HP2
 have p0:w2.cell? ⟨w.heap.size,0,none⟩=some (.slice A N c):=HP.out.p.cell 0
 have d0:w2.cell? ⟨w.heap.size+1,0,none⟩=some (.int .i64 xk):=HP.out.d.cell 0
 exact C0k
theorem B6Q{rs:List Rc}{x:Dd}(h8:x.kind=8)(hn:A0K x.name=true){i:Nat}(hi:fnd x.name (rs.map Rc.s)=i)(hil:i<rs.length):hsE (rs.map Rc.s) x=0∧hsT (rs.map Rc.s) x=rs[i].s.tx∧hsP (rs.map Rc.s) x=rs.map Rc.s:=by
 subst hi
 have hl:fnd x.name (rs.map Rc.s)<(rs.map Rc.s).length:=by rw[AW];exact hil
 obtain⟨h1,h3,h4⟩:=B3Q (P:=rs.map Rc.s) h8 hn hl
 rw[Bf] at h3
 exact⟨h1,h3,h4⟩
theorem B6R{rs:List Rc}{x:Dd}(h9:x.kind=9)(hn:A0K x.name=true){i:Nat}(hi:fnd x.name (rs.map Rc.s)=i)(hil:i<rs.length):hsE (rs.map Rc.s) x=0∧hsT (rs.map Rc.s) x=⟨#[]⟩∧hsP (rs.map Rc.s) x=(rs.map Rc.s).eraseIdx i:=by
 subst hi
 exact B3R (P:=rs.map Rc.s) h9 hn (by rw[AW];exact hil)
theorem B6S{rs:List Rc}{x:Dd}(h2:2≤x.kind)(h10:x.kind≤10)(h8:x.kind≠8)(h9:x.kind≠9)(hn:A0K x.name=true){i:Nat}(hi:fnd x.name (rs.map Rc.s)=i)(hil:i<rs.length):hsE (rs.map Rc.s) x=pgE rs[i].s x∧hsT (rs.map Rc.s) x=⟨#[]⟩∧hsP (rs.map Rc.s) x=(rs.map Rc.s).set i (pgP rs[i].s x):=by
 subst hi
 have hl:fnd x.name (rs.map Rc.s)<(rs.map Rc.s).length:=by rw[AW];exact hil
 obtain⟨h1,h3,h4⟩:=B3P (P:=rs.map Rc.s) h2 h10 h8 h9 hn hl
 rw[Bf] at h1 h4
 exact⟨h1,h3,h4⟩
theorem B4P(A:Option Addr)(c:Nat)(rs:List Rc)(x:Dd)(K:Nat→Prop)(w:World)(hf:RoOk w K A c rs x)(hkk:x.kind=8)(hn:A0K x.name=true)(i:Nat)(hi:fnd x.name (rs.map Rc.s)=i)(hil:i<rs.length):Calls Tryz.prog 9 #[.agg #[.slice A rs.length c],x.val,.func (.func 10) #[] #[]] w (A1v w K rs x):=by
 obtain⟨hq1,hq2,hq3⟩:=B6Q (rs:=rs) hkk hn hi hil
 obtain⟨T,hT⟩:∃T,rs[i].s.tx=T:=⟨_,rfl⟩
 rw[hT] at hq2
 have HT:=AA hT
 clear hT
 have hz:idxZ x.name (rs.map Rc.s)=(i:Int):=by rw[A2b (by rw[hi,AW];exact hil),hi]
 obtain⟨hr,hK,hok,hnm,htx,hre,hxm,htb,⟨mx,hmx⟩,hmg⟩:=hf
 have hn6:rs.length≤6:=by have:=hok.n;rwa[AW] at this
 have HOKP:=AA hok
 have HRR:Hid (∀W,Below w.heap.size w W→RhAt W K A c rs):=fun W hW=>hr.below hW
 have HKK:=AA hK
 have HRE:Hid (∀W,Below w.heap.size w W→Rd W w.heap.size 3 x.A x.m (A0f x.l)):=fun W hW=>hre.below hW
 have HTB:Hid (∀W,Below w.heap.size w W→TabI W):=fun W hW=>A0c htb hW
 have HMX:Hid (∀W,Below w.heap.size w W→W.cell? ⟨0,0,none⟩=some (.int .i64 mx)):=fun W hb=>(hb.cell (p:=⟨0,0,none⟩) hmg).trans hmx
 have HNM:=AA (fun W=>A1C x.name W hnm)
 have HID:=AA (fun W g (hW:Below w.heap.size w W) (hg:g<W.heap.size) (hc:W.cell? ⟨g,2,none⟩=some (.string x.name))=>A2p rs x.name A rs.length c w.heap.size g W (hr.row.rd.below hW) hW.size EE rfl hg hc)
 have HTX:=AA htx
 have HXM:=AA hxm
 have HH3:=AA (A3M w (.slice A rs.length c) x)
 have hbA:Below w.heap.size w (((w.alloc (.cells #[.slice A rs.length c] 29)).alloc (.cells x.cells 32)).alloc (.cells #[.slice none 0 0] 29)):=Ds
 have HBA:=AA hbA
 unfold A1v
 rw[hq1,hq2,hq3]
 obtain⟨wA,hwA⟩:∃wA,wA=(((w.alloc (.cells #[.slice A rs.length c] 29)).alloc (.cells x.cells 32)).alloc (.cells #[.slice none 0 0] 29)):=⟨_,rfl⟩
 rw[←hwA] at HH3 HBA
 have HWA:=AA hwA
 clear hwA hr hK hok hnm htx hre hxm htb hmx hbA hq1 hq2 hq3
 rw[hn] at HNM
 rw[hz] at HID
 clear hz hi
 obtain⟨xk,xn,xnm,xt,xA,xm,xc,xl⟩:=x
 unfold Dd.val
 unfold Dd.cells at HWA
 simp only at*
 obtain⟨N,hN⟩:∃N,rs.length=N:=⟨_,rfl⟩
 rw[hN] at HH3 HWA HID hn6⊢
 have HN:=AA hN
 clear hN
 have hil2:i<N:=by have:=HN.out;omega
 subst hkk
 go_enter Tryz.func9,Tryz.ntmps9
 go_wp2_with fail
 rw[←HWA.out]
 refine(HNM.out wA).mono ?_
 rintro e w1 ⟨rfl,hb1⟩
 have HB1:=AA (HBA.out.trans (hb1.mono HBA.out.size))
 have HP:=AA (HH3.out.below hb1)
 clear hb1
 have p0:w1.cell? ⟨w.heap.size,0,none⟩=some (.slice A N c):=HP.out.p.cell 0
 have d0:w1.cell? ⟨w.heap.size+1,0,none⟩=some (.int .i64 8):=HP.out.d.cell 0
 have d1:w1.cell? ⟨w.heap.size+1,1,none⟩=some (.int .i64 xn):=HP.out.d.cell 1
 have d2:w1.cell? ⟨w.heap.size+1,2,none⟩=some (.string xnm):=HP.out.d.cell 2
 have d3:w1.cell? ⟨w.heap.size+1,3,none⟩=some (.string xt):=HP.out.d.cell 3
 have d4:w1.cell? ⟨w.heap.size+1,4,none⟩=some (.slice xA xm xc):=HP.out.d.cell 4
 have z0:w1.cell? ⟨w.heap.size+1+1,0,none⟩=some (.slice none 0 0):=HP.out.z.cell 0
 have zf0:=HP.out.z.frozen 0
 have hg1:w.heap.size+1<w1.heap.size:=HP.out.d.lt
 go_wp2_with fail
 refine(HID.out w1 _ HB1.out hg1 d2).mono ?_
 rintro e w2 ⟨rfl,hb2⟩
 have HB2:=AA (HB1.out.trans (hb2.mono HB1.out.size))
 have HP2:=AA (HP.out.below hb2)
 clear p0 d0 d1 d2 d3 d4 z0 zf0
 clear HP hb2 HID HNM hg1
 have HP:=HP2
 have p0:w2.cell? ⟨w.heap.size,0,none⟩=some (.slice A N c):=HP.out.p.cell 0
 have d0:w2.cell? ⟨w.heap.size+1,0,none⟩=some (.int .i64 8):=HP.out.d.cell 0
 have d1:w2.cell? ⟨w.heap.size+1,1,none⟩=some (.int .i64 xn):=HP.out.d.cell 1
 have d2:w2.cell? ⟨w.heap.size+1,2,none⟩=some (.string xnm):=HP.out.d.cell 2
 have d3:w2.cell? ⟨w.heap.size+1,3,none⟩=some (.string xt):=HP.out.d.cell 3
 have d4:w2.cell? ⟨w.heap.size+1,4,none⟩=some (.slice xA xm xc):=HP.out.d.cell 4
 have z0:w2.cell? ⟨w.heap.size+1+1,0,none⟩=some (.slice none 0 0):=HP.out.z.cell 0
 have zf0:=HP.out.z.frozen 0
 have hrd:=(HRR.out w2 HB2.out).row.rd
 rw[HN.out] at hrd
 obtain⟨ad,hA,_,r0,r1,r2,r3,r4,r5⟩:=A6j hrd hil HN.out
 have hab:=(HRR.out w (AI _ _)).row.lt ad hA
 subst hA
 rw[HT.out] at r1
 clear r0 r2 r3 r4 r5
 go_wp2_with fail
 obtain⟨F1,HF1,hcell10,hcell11⟩:=cells2 ⟨w.heap.size,0,none⟩ (.slice (some ad) N c) ⟨(ad.add (i*6)).block,(ad.add (i*6)).off+1,none⟩ (.string T)
 refine EB [(0,true),(1,true),(2,true),(3,true),(4,true),(5,true),(6,true),(7,true),(8,false),(9,true),(10,true)] HF1 ?_
 intro hne1
 simp only[A0i,AT,AP,AR]
 repeat(first|((first|refine Dt ?_|refine Du ?_);intro K hK;go_big_quiet_op;go_big_quiet_on)|((first|refine Dv ?_|refine Dw ?_);simp only[Act.put,AB,AE,AF]))
 have hneg:ad.block≠w.heap.size+1+1:=EE
 have HB3:Hid (Below w.heap.size w w2.drew):=HB2.out.drew
 have HP3:Hid (H3 w2.drew w.heap.size (.slice (some ad) N c) ⟨8,xn,xnm,xt,xA,xm,xc,xl⟩ (.slice none 0 0)):=HP2.out.below (Bl (AI _ _))
 clear p0 d0 d1 d2 d3 d4 z0 zf0
 clear HP
 have HP:=HP3
 have p0:w2.drew.cell? ⟨w.heap.size,0,none⟩=some (.slice (some ad) N c):=HP.out.p.cell 0
 have d0:w2.drew.cell? ⟨w.heap.size+1,0,none⟩=some (.int .i64 8):=HP.out.d.cell 0
 have d1:w2.drew.cell? ⟨w.heap.size+1,1,none⟩=some (.int .i64 xn):=HP.out.d.cell 1
 have d2:w2.drew.cell? ⟨w.heap.size+1,2,none⟩=some (.string xnm):=HP.out.d.cell 2
 have d3:w2.drew.cell? ⟨w.heap.size+1,3,none⟩=some (.string xt):=HP.out.d.cell 3
 have d4:w2.drew.cell? ⟨w.heap.size+1,4,none⟩=some (.slice xA xm xc):=HP.out.d.cell 4
 have z0:w2.drew.cell? ⟨w.heap.size+1+1,0,none⟩=some (.slice none 0 0):=HP.out.z.cell 0
 have zf0:=HP.out.z.frozen 0
 have z9:w2.cell? ⟨w.heap.size+1+1,0,none⟩=some (.slice none 0 0):=HP2.out.z.cell 0
 refine A0a ?_
 go_wp2_with fail
 have q1:(w2.drew.setCell ⟨w.heap.size+1+1,0,none⟩ (.slice (some ad) N c)).cell? ⟨w.heap.size,0,none⟩=some (.slice (some ad) N c):=(HP3.out.p.far (p:=⟨w.heap.size+1+1,0,none⟩) (by show w.heap.size≠w.heap.size+1+1;omega) _).cell 0
 have q2:(w2.drew.setCell ⟨w.heap.size+1+1,0,none⟩ (.slice (some ad) N c)).cell? ⟨(ad.add (i*6)).block,(ad.add (i*6)).off+1,none⟩=some (.string T):=by
  rw[AY _ _ _ _ (fun e=>hneg (by injection e with e1;rw[←A0z ad (i*6),←e1]))]
  exact r1
 refine ED HF1 ?_ ⟨q1,q2⟩
 repeat(first|((first|refine Dt ?_|refine Du ?_);intro K hK;go_big_quiet_op;go_big_quiet_on)|((first|refine Dv ?_|refine Dw ?_);simp only[Act.put,AB,AE,AF]))
 refine A0g ?_
 go_wp2_with fail
 (apply bodyPost_ret;(simp[results,Tryz.results9,go_sem,z9];rfl);rfl)
 refine⟨some ad,c,rs, ?_,rfl,A7o (bel1 HB3.out (le2 _)) HRR.out⟩
 rw[HN.out]
theorem B2z{w4:World}{K:Nat→Prop}{B N1 g i c9:Nat}{A9:Option Addr}{rs':List Rc}{u:Value}(ho:OwnO w4 B 82 6 (.slice A9 N1 c9) N1 (A1b rs'))(hl:rs'.length=N1)(hK:∀k,K k→k<B)(hg:g<B)(hp:∀r∈rs',RcAt (w4.setCell ⟨g,i,none⟩ u) K r):RhAt (w4.setCell ⟨g,i,none⟩ u) K A9 c9 rs':=by
 subst hl
 obtain⟨A,c,hv,h1,h2,ho'⟩:=RdK.own (A5M (i:=i) (a:=u) ho hg) hK
 cases hv
 exact⟨ho',⟨h1,h2⟩,hp⟩
theorem B0A:∀{rs:List Rc} {i:Nat},(rs.eraseIdx i).map Rc.s=(rs.map Rc.s).eraseIdx i
 |[],_=>rfl
 |_::_,0=>rfl
 |r::rs,i+1=>congrArg (r.s::·) (B0A (rs:=rs) (i:=i))
theorem B4Q(A:Option Addr)(c:Nat)(rs:List Rc)(x:Dd)(K:Nat→Prop)(w:World)(hf:RoOk w K A c rs x)(hkk:x.kind=9)(hn:A0K x.name=true)(i:Nat)(hi:fnd x.name (rs.map Rc.s)=i)(hil:i<rs.length):Calls Tryz.prog 9 #[.agg #[.slice A rs.length c],x.val,.func (.func 10) #[] #[]] w (A1v w K rs x):=by
 obtain⟨hq1,hq2,hq3⟩:=B6R (rs:=rs) hkk hn hi hil
 have hz:idxZ x.name (rs.map Rc.s)=(i:Int):=by rw[A2b (by rw[hi,AW];exact hil),hi]
 obtain⟨hr,hK,hok,hnm,htx,hre,hxm,htb,⟨mx,hmx⟩,hmg⟩:=hf
 have hn6:rs.length≤6:=by have:=hok.n;rwa[AW] at this
 have HOKP:=AA hok
 have HRR:Hid (∀W,Below w.heap.size w W→RhAt W K A c rs):=fun W hW=>hr.below hW
 have HKK:=AA hK
 have HRE:Hid (∀W,Below w.heap.size w W→Rd W w.heap.size 3 x.A x.m (A0f x.l)):=fun W hW=>hre.below hW
 have HTB:Hid (∀W,Below w.heap.size w W→TabI W):=fun W hW=>A0c htb hW
 have HMX:Hid (∀W,Below w.heap.size w W→W.cell? ⟨0,0,none⟩=some (.int .i64 mx)):=fun W hb=>(hb.cell (p:=⟨0,0,none⟩) hmg).trans hmx
 have HNM:=AA (fun W=>A1C x.name W hnm)
 have HID:=AA (fun W g (hW:Below w.heap.size w W) (hg:g<W.heap.size) (hc:W.cell? ⟨g,2,none⟩=some (.string x.name))=>A2p rs x.name A rs.length c w.heap.size g W (hr.row.rd.below hW) hW.size EE rfl hg hc)
 have HTX:=AA htx
 have HXM:=AA hxm
 have HH3:=AA (A3M w (.slice A rs.length c) x)
 have hbA:Below w.heap.size w (((w.alloc (.cells #[.slice A rs.length c] 29)).alloc (.cells x.cells 32)).alloc (.cells #[.slice none 0 0] 29)):=Ds
 have HBA:=AA hbA
 unfold A1v
 rw[hq1,hq2,hq3]
 obtain⟨wA,hwA⟩:∃wA,wA=(((w.alloc (.cells #[.slice A rs.length c] 29)).alloc (.cells x.cells 32)).alloc (.cells #[.slice none 0 0] 29)):=⟨_,rfl⟩
 rw[←hwA] at HH3 HBA
 have HWA:=AA hwA
 clear hwA hr hK hok hnm htx hre hxm htb hmx hbA hq1 hq2 hq3
 rw[hn] at HNM
 rw[hz] at HID
 clear hz hi
 obtain⟨xk,xn,xnm,xt,xA,xm,xc,xl⟩:=x
 unfold Dd.val
 unfold Dd.cells at HWA
 simp only at*
 obtain⟨N,hN⟩:∃N,rs.length=N:=⟨_,rfl⟩
 rw[hN] at HH3 HWA HID hn6⊢
 have HN:=AA hN
 clear hN
 have hil2:i<N:=by have:=HN.out;omega
 subst hkk
 go_enter Tryz.func9,Tryz.ntmps9
 go_wp2_with fail
 rw[←HWA.out]
 refine(HNM.out wA).mono ?_
 rintro e w1 ⟨rfl,hb1⟩
 have HB1:=AA (HBA.out.trans (hb1.mono HBA.out.size))
 have HP:=AA (HH3.out.below hb1)
 clear hb1
 have p0:w1.cell? ⟨w.heap.size,0,none⟩=some (.slice A N c):=HP.out.p.cell 0
 have d0:w1.cell? ⟨w.heap.size+1,0,none⟩=some (.int .i64 9):=HP.out.d.cell 0
 have d1:w1.cell? ⟨w.heap.size+1,1,none⟩=some (.int .i64 xn):=HP.out.d.cell 1
 have d2:w1.cell? ⟨w.heap.size+1,2,none⟩=some (.string xnm):=HP.out.d.cell 2
 have d3:w1.cell? ⟨w.heap.size+1,3,none⟩=some (.string xt):=HP.out.d.cell 3
 have d4:w1.cell? ⟨w.heap.size+1,4,none⟩=some (.slice xA xm xc):=HP.out.d.cell 4
 have z0:w1.cell? ⟨w.heap.size+1+1,0,none⟩=some (.slice none 0 0):=HP.out.z.cell 0
 have zf0:=HP.out.z.frozen 0
 have hg1:w.heap.size+1<w1.heap.size:=HP.out.d.lt
 go_wp2_with fail
 refine(HID.out w1 _ HB1.out hg1 d2).mono ?_
 rintro e w2 ⟨rfl,hb2⟩
 have HB2:=AA (HB1.out.trans (hb2.mono HB1.out.size))
 have HP2:=AA (HP.out.below hb2)
 clear p0 d0 d1 d2 d3 d4 z0 zf0
 clear HP hb2 HID HNM hg1
 have HP:=HP2
 have p0:w2.cell? ⟨w.heap.size,0,none⟩=some (.slice A N c):=HP.out.p.cell 0
 have d0:w2.cell? ⟨w.heap.size+1,0,none⟩=some (.int .i64 9):=HP.out.d.cell 0
 have d1:w2.cell? ⟨w.heap.size+1,1,none⟩=some (.int .i64 xn):=HP.out.d.cell 1
 have d2:w2.cell? ⟨w.heap.size+1,2,none⟩=some (.string xnm):=HP.out.d.cell 2
 have d3:w2.cell? ⟨w.heap.size+1,3,none⟩=some (.string xt):=HP.out.d.cell 3
 have d4:w2.cell? ⟨w.heap.size+1,4,none⟩=some (.slice xA xm xc):=HP.out.d.cell 4
 have z0:w2.cell? ⟨w.heap.size+1+1,0,none⟩=some (.slice none 0 0):=HP.out.z.cell 0
 have zf0:=HP.out.z.frozen 0
 have hrd:=(HRR.out w2 HB2.out).row.rd
 rw[HN.out] at hrd
 have HCL:=AA (A8k A N c w2.heap.size (A1b rs) w2 hrd (AD _) (A8N rs) EE)
 clear hrd
 go_wp2_with fail
 refine HCL.out.mono ?_
 rintro e w3 ⟨v3,rfl,hown3,hb3⟩
 have hO3:=OwnO.of_own hown3
 have HB3:=AA (HB2.out.trans (hb3.mono HB2.out.size))
 have HP3:=AA (HP2.out.below hb3)
 have HO3:=AA hO3
 have HDL:=AA (delRc0 (A1b rs) v3 N i w2.heap.size w3 hO3 hil2 EE (A8N rs))
 have hs2:=HB2.out.size
 have hs3:=hb3.size
 have hg2:w.heap.size+1+1<w2.heap.size:=HP2.out.z.lt
 clear p0 d0 d1 d2 d3 d4 z0 zf0
 clear HP hown3 hb3 hO3 HCL
 go_wp2_with fail
 refine HDL.out.mono ?_
 rintro e w4 ⟨A4,c4,rfl,rfl,ho4,hg4⟩
 have hb4:Below w.heap.size w w4:=HB3.out.grown hg4 (AQ hs2 hs3) (fun k hk=>AQ hs2 (HO3.out.lt k hk).1)
 have HB4:=AA hb4
 have HP4:=AA (HP3.out.grown hg4 (fun k hk=>AO hg2 (HO3.out.lt k hk).1))
 have HO4:Hid (OwnO w4 w2.heap.size 82 6 (.slice A4 (N-1) c4) (N-1) (A1b (rs.eraseIdx i))):=by
  have e:A1b (rs.eraseIdx i)=(A1b rs).take (i*6)++(A1b rs).drop ((i+1)*6):=(B2i B2d rs i hil).symm
  rw[Hid,e]
  exact ho4
 have hl:(rs.eraseIdx i).length=N-1:=by rw[List.length_eraseIdx,if_pos hil,HN.out]
 have HLL:=AA hl
 clear hb4 hg4 ho4 HDL hl
 have HP:=HP4
 have p0:w4.cell? ⟨w.heap.size,0,none⟩=some (.slice A N c):=HP.out.p.cell 0
 have d0:w4.cell? ⟨w.heap.size+1,0,none⟩=some (.int .i64 9):=HP.out.d.cell 0
 have d1:w4.cell? ⟨w.heap.size+1,1,none⟩=some (.int .i64 xn):=HP.out.d.cell 1
 have d2:w4.cell? ⟨w.heap.size+1,2,none⟩=some (.string xnm):=HP.out.d.cell 2
 have d3:w4.cell? ⟨w.heap.size+1,3,none⟩=some (.string xt):=HP.out.d.cell 3
 have d4:w4.cell? ⟨w.heap.size+1,4,none⟩=some (.slice xA xm xc):=HP.out.d.cell 4
 have z0:w4.cell? ⟨w.heap.size+1+1,0,none⟩=some (.slice none 0 0):=HP.out.z.cell 0
 have zf0:=HP.out.z.frozen 0
 go_wp2_with fail
 (apply bodyPost_ret;(simp[results,Tryz.results9,go_sem,z0];rfl);rfl)
 refine⟨A4,c4,rs.eraseIdx i, ?_,B0A,B2z HO4.out HLL.out (fun k hk=>AO (HKK.out k hk) hs2) hg2 (fun r hr=>(HRR.out _ (bel1 HB4.out (le2 _))).pg r (CU hr)),bel1 HB4.out (le2 _)⟩
 rw[HLL.out]
end Go.Proofs.YtplgghjdidmcfaaGreatDoor
