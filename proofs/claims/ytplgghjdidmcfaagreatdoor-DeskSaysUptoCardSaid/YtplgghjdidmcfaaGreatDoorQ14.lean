/- Written anew, smaller, by a program of our own out of our texts. No condition of our own. -/
import Derived.Test.YtplgghjdidmcfaaGreatDoorQ12
import Derived.Test.YtplgghjdidmcfaaGreatDoorQ13
import Derived.Test.YtplgghjdidmcfaaGreatDoorQ05
import Derived.Maps.AppendAt
set_option maxRecDepth 100000
set_option maxHeartbeats 16000000
set_option linter.all false
namespace Go.Proofs.YtplgghjdidmcfaaGreatDoor
open Go.RowKit
theorem B9S{P:Prop}(h:P:=by
 rcases hu with hu|hu
 ·rcases ha with ha|ha
  ·exact .inl ha
  ·exact .inr (by rw[hu];exact ha)
 ·cases hv:v.ownBlock with
  |none=>exact .inl hv
  |some g=>
   refine .inr ?_
   rw[hv,hu]
   intro e
   have:=(h.lt g hv).2
   simp only[Option.some.injEq] at e
   omega
 ):P:=h
theorem C1l{P:Prop}(h:P:=by
 unfold Oper.wp execOp
 simp only[ho,resolve,invoke,builtin,Sem.run_bind,Sem.run_pure,Result.andThen_ok,List.map_toArray,List.map_cons,List.map_nil,hs,hx,hr]
 exact hK _ _ (h v' w' h2 h3 ((AI base w).grown h3 hbase (fun k hk=>(hown.lt k hk).1)) h5)
 ):P:=h
theorem C0h{P:Prop}(h:P:=by
 simp[Builtin.append_,run_underlying ht,sizeOf,typeInfo,hi,Builtin.lenOf,hroom,hf,hadd,hst]
 ):P:=h
theorem B2Y{s:List UInt8}{l:List Ed}(h:A0n s.length l=0){k:Nat}(hk:k<l.length):
 ∃a d:Nat,l[k].at_=a∧l[k].del=d∧a+d≤(A0C s (l.drop (k+1))).length∧(A0C s (l.drop (k+1))).length≤1000∧l[k].ins.length≤40∧
  A0C s (l.drop k)=(A0C s (l.drop (k+1))).take a++l[k].ins++(A0C s (l.drop (k+1))).drop (a+d):=by
 obtain⟨h0,h1,h2,hc,h3⟩:=A2o.1 h
 have hm:=hc.mem l[k] (Ac hk)
 obtain⟨a,ha⟩:=BV hm.1
 obtain⟨d,hd⟩:=BV hm.2.1
 have hch:∀(l:List Ed) (p:Option Int),Chain s.length p l→∀j,∃q,Chain s.length q (l.drop j)∧(∀(hj:j-1<l.length),0<j→q=some (l[j-1].at_+l[j-1].del)):=by
  intro l p hc
  induction hc with
  |nil=>intro j;exact⟨none,by rw[List.drop_nil];exact .nil _,fun hj=>by simp at hj⟩
  |cons p x r h0 h ih=>
   intro j
   cases j with
   |zero=>exact⟨p,.cons _ _ _ h0 h,fun _ h=>absurd h EE⟩
   |succ j=>
    obtain⟨q,hq,hq2⟩:=ih j
    cases j with
    |zero=>exact⟨_,h,fun _ _=>rfl⟩
    |succ j=>exact⟨q,hq,fun hj _=>by have:=hq2 (by simpa using hj) EE;simpa using this⟩
 obtain⟨q,hq,hq2⟩:=hch l none hc (k+1)
 have hq3:=hq2 (by simpa using hk) EE
 simp only[Cc] at hq3
 subst hq3
 have hle:a+d≤s.length:=EE
 have e1:=A9X rfl hq (k:=a+d) (by simp only[after];omega) hle
 have e2:=A4z rfl hq (k:=a+d) (by simp only[after];omega) hle
 have e3:=congrArg List.length e1
 rw[AJ,AV] at e3
 have e4:=hq.grows_le
 have e5:(l.drop (k+1)).length≤20:=by rw[AZ];omega
 refine⟨a,d,ha,hd,by omega,by omega,hm.2.2.2.1, ?_⟩
 rw[A4T hk,A0C,ha,hd]
 congr 1
theorem A6v(s:ByteArray)(l:List Ed)(A:Option Addr)(m c B:Nat)(w:World)(hr:Rd w B 3 A m (A0f l))(hB:B≤w.heap.size)(hE:A0n s.size l=0):
 Calls Tryz.prog 131 #[.string s,.slice A m c] w fun e w'=>e= .returned (.string (S (A0C (L s) l)))∧Below w.heap.size w w':=by
 have hlen:=Rd.rec_len A2v EE hr
 have HR:=AA hr;clear hr
 have HL:=AA hlen;clear hlen
 have HE':Hid (A0n (L s).length l=0):=by unfold Hid;rw[A0e];exact hE
 have hl20:m≤20:=by rw[←HL.out];exact(A2o.1 hE).2.2.1
 clear hE
 go_enter Tryz.func131,Tryz.ntmps131
 go_wp2_with fail
 go_loopw [0,5] (fun o i wr=>∃k:Nat,k≤m∧i= .int .i64 ((k:Int)-1)∧o= .string (S (A0C (L s) (l.drop k)))∧Below w.heap.size w wr) (fun _ i _=>(intOf i+1).toNat)
 case atStart=>exact⟨m,AD _,rfl,by rw[Au (by rw[HL.out];exact AD _)];rfl,AI _ _⟩
 case round=>
  obtain⟨k,hk,rfl,rfl,hb⟩:=hrel
  have hbs:=hb.size
  by_cases hlt:0<k
  ·obtain⟨k,rfl⟩:∃j,k=j+1:=⟨k-1,by omega⟩
   obtain⟨ad,hl,rfl,hab,c0,c1,c2⟩:=(HR.out.below (hb.mono hB)).at_ed (k:=k) EE
   obtain⟨a,d,ha,hd,hz1,hz2,hz3,hst⟩:=B2Y HE'.out hl
   have HST:=AA hst;clear hst
   rw[ha] at c0
   rw[hd] at c1
   have HAD:=AA (And.intro ha hd);clear ha hd
   generalize A0C (L s) (l.drop (k+1))=cur at*
   generalize l[k].ins=xi at*
   have q1:(S cur).size≤1000:=by rw[A0b];exact hz2
   have q2:a+d≤(S cur).size:=by rw[A0b];exact hz1
   have q3:(S xi).size≤40:=by rw[A0b];exact hz3
   have q4:((S cur).extract 0 a).size≤1000:=by rw[Ak];omega
   have q5:((S cur).extract (a+d) (S cur).size).size≤1000:=by rw[Ak];omega
   have q6:((S cur).extract 0 a++S xi).size≤1040:=by rw[Bn];omega
   have e0:(((k+1:Nat):Int)-1)=(k:Int):=EE
   rw[e0]
   have HEX:Hid ((S cur).extract 0 a++S xi++(S cur).extract (a+d) (S cur).size=S (cur.take a++xi++cur.drop (a+d))):=by
    unfold Hid
    rw[A1i,A1i,L_S,A0x,A0x,L_S,L_S,Az,A0b,Bh,AX (l:=cur.drop (a+d)) (by rw[AZ];exact AD _)]
   go_wp2_with fail
   go_quiet (fail)
   go_wp2_with fail
   go_roundw
   case rel=>exact⟨k,by omega,rfl,by rw[HEX.out,HST.out],Ds⟩
   case measure=>simp[intOf]
  ·obtain rfl:k=0:=EE
   go_wp2_with fail
   go_ret
   exact⟨rfl,hb⟩
theorem B8a{l out:List Ed}{c:Int}(h:A1d l=0)(hA:A7C (wrL l) out c):out=l∧c=0:=by
 unfold A7C at hA
 rw[B4n,A9y (A1c.1 h).2] at hA
 simp only at hA
 rw[if_pos h] at hA
 rcases hA with⟨h1,h2⟩|⟨h1,_⟩
 ·exact⟨(Aw h1).symm,h2⟩
 ·cases h1
theorem B8b{l out:List Ed}{ok:Bool}(h:A1d l=0)(hA:A8E (wrL l) out ok):out=l:=by
 unfold A8E at hA
 rw[A9y (A1c.1 h).2] at hA
 rcases hA with⟨h1,_⟩|⟨h1,_⟩
 ·exact(Aw h1).symm
 ·cases h1
theorem B5T{rs:List (List UInt8)}(hg:good [] rs){k:Nat}(hk:k<rs.length){R:ByteArray}(hR:R=S (rs.getD k [])):0<R.size∧R.size≤1100∧
 (((L R).getD 0 0=98∧play [] (rs.take (k+1))=L (R.extract 1 R.size))∨
  ((L R).getD 0 0=101∧∃l,L (R.extract 1 R.size)=wrL l∧A0n (play [] (rs.take k)).length l=0∧A1d l=0∧play [] (rs.take (k+1))=A0C (play [] (rs.take k)) l)):=by
 have e:rs.getD k []=rs[k]:=by rw[AK,AL hk];rfl
 rw[e] at hR
 have hp:=B5M (s:=[]) hk
 obtain⟨h1,h2⟩:=B3y hg k hk
 generalize rs[k]=r at*
 subst hR
 have hx:∀(a:UInt8) (t:List UInt8),L ((S (a::t)).extract 1 (S (a::t)).size)=t:=fun a t=>by
  rw[A0x,L_S,A0b,List.drop_succ_cons,Az,AM,Cc,BJ]
 rcases h2 with⟨t,rfl,ht⟩|⟨l,rfl,hl⟩
 ·refine⟨by rw[A0b];simp,by rw[A0b];exact h1,.inl ⟨rfl, ?_⟩⟩
  rw[hp,B1G,hx]
 ·refine⟨by rw[A0b];simp,by rw[A0b];exact h1,.inr ⟨rfl,l,hx _ _,hl,A3n hl, ?_⟩⟩
  rw[hp,B1H hl]
theorem B1h{R:ByteArray}(h:0<R.size):(L R).getD 0 0=R[0]'h:=A5p h
theorem B1N{rs:List (List UInt8)}(hg:good [] rs)(k:Nat):(S (play [] (rs.take k))).size≤200:=by
 rw[A0b];exact A6Y (A6V hg k) (AS _)
theorem A5c(g gl:Nat)(tx d:ByteArray)(sf:Nat)(w:World)(h:LeafAt w g gl tx d sf)(hd:d.size≤4000)(hgd:good [] (A0P (L d)).1):
 Calls Tryz.prog 61 #[.pointer (some ⟨g,0,none⟩)] w fun e w'=>e= .returned (.tuple #[])∧LeafAt w' g gl (A2x d) d sf∧Gbs w w' [g,gl]:=by
 have HH:=AA h
 have HL:=AA (B5J gl d sf w h.log hd)
 obtain⟨c0,c1,f0,f1,hg,hgl⟩:=h.cells
 clear h
 have hcnt:=A5Q (L d)
 rw[A0e] at hcnt
 have HRD:Hid (A2x d=S (play [] (A0P (L d)).1)):=rfl
 generalize(A0P (L d)).1=rs at*
 have HG:=AA hgd;clear hgd
 go_enter Tryz.func61,Tryz.ntmps61
 go_wp2_with fail
 refine HL.out.mono ?_
 rintro e w1 ⟨v,rfl,hown,hb1⟩
 obtain⟨A,c,rfl,hnc,hcm,hrd⟩:=A1e hown
 have HR:=AA hrd
 clear hown hrd
 have H1:=AA (HH.out.below hb1)
 have hs1:=hb1.size
 obtain⟨n,hn⟩:∃n,rs.length=n:=⟨_,rfl⟩
 rw[hn] at HR hcnt hnc⊢
 have HN:=AA hn;clear hn
 clear c0 c1 f0 f1
 go_wp2_with fail
 go_loopw [2,13] (fun sv iv wr=>∃k:Nat,k≤n∧iv= .int .i64 (k:Int)∧sv= .string (S (play [] (rs.take k)))∧Below w1.heap.size w1 wr) (fun _ iv _=>n-(intOf iv).toNat)
 case atStart=>exact⟨0,AS _,rfl,rfl,AI _ _⟩
 case round=>
  obtain⟨k,hk,rfl,rfl,hb⟩:=hrel
  have hbs:=hb.size
  by_cases hlt:k<n
  ·have g1:decide ((k:Int)<(n:Int))=true:=AG EE
   have g1':decide (k<n)=true:=AG hlt
   obtain⟨ad,rfl,hab,q0⟩:=A2t (HR.out.below hb) hlt
   obtain⟨R,hR⟩:∃R,R=S (rs.getD k []):=⟨_,rfl⟩
   rw[←hR] at q0
   obtain⟨h0,hRs,hcase⟩:=B5T HG.out (by rw[HN.out];exact hlt) hR
   have htl:=B1N HG.out k
   clear hR
   rcases hcase with⟨hb0,hp⟩|⟨hb0,l,hl,he,hsc,hp⟩
   ·rw[B1h h0] at hb0
    have hp':S (play [] (rs.take (k+1)))=R.extract 1 R.size:=by rw[hp,S_L]
    have HP:=AA hp'
    clear hp hp'
    generalize S (play [] (rs.take k))=cur at*
    go_wp2_with fail
    go_roundw
    case rel=>exact⟨k+1,by omega,by go_num,by rw[HP.out],hb⟩
    case measure=>simp[intOf];omega
   ·rw[B1h h0] at hb0
    have hb1':R[0]'h0≠98:=by rw[hb0];decide
    have HP:Hid (S (play [] (rs.take (k+1)))=S (A0C (L (S (play [] (rs.take k)))) l)):=by unfold Hid;rw[hp,L_S]
    have HE:Hid (A0n (S (play [] (rs.take k))).size l=0):=by unfold Hid;rw[A0b];exact he
    have HSC:=AA hsc
    have HX:=AA hl
    have hxs:(R.extract 1 R.size).size≤1100:=by rw[Ak];omega
    clear hp he hsc hl
    generalize S (play [] (rs.take k))=cur at*
    go_wp2_with fail
    refine(B7X (R.extract 1 R.size) EE _).mono ?_
    rintro e w2 ⟨v2,out,cc,rfl,hans,hown2,hb2⟩
    rw[HX.out] at hans
    obtain⟨rfl,rfl⟩:=B8a HSC.out hans
    obtain⟨A2,c2,rfl,hnc2,hcm2,hrx2⟩:=A1e hown2
    have HO:=AA hrx2
    clear hans hown2 hrx2
    have hB2:=hb.trans (hb2.mono hbs)
    go_wp2_with fail
    refine(A5T cur out A2 out.length c2 _ w2 HO.out (AD _) (AQ hnc2 (AQ hcm2 EF)) EE).mono ?_
    rintro e w3 ⟨rfl,hb3⟩
    have hap:A5b cur out=S (A0C (L cur) out):=by unfold A5b;rw[if_pos HE.out]
    rw[hap]
    have hB3:=hB2.trans (hb3.mono hB2.size)
    generalize hzz:A0n cur.size out=zz
    clear hap
    go_wp2_with fail
    go_roundw
    case rel=>exact⟨k+1,by omega,by go_num,by rw[HP.out],hB3⟩
    case measure=>simp[intOf];omega
  ·have hkn:k=n:=EE
   subst hkn
   have HT:Hid (A2x d=S (play [] (rs.take k))):=by unfold Hid;rw[HRD.out,←HN.out,BJ]
   generalize S (play [] (rs.take k))=cur at*
   have H2:=AA (H1.out.below hb)
   obtain⟨c0,c1,f0,f1,hg,hgl⟩:=H2.out.cells
   go_wp2_with fail
   go_end0
   rw[HT.out]
   exact⟨rfl,H2.out.told _,B1K (Gbs.of_below (A0h hb1 hb) _) _⟩
def cfLT(tx d:ByteArray)(sf:Nat)(keep:Int):ByteArray:=if A0D d sf keep=0 then A2x (craD d sf keep) else tx
theorem A3W{d:ByteArray}{sf:Nat}{keep:Int}(h:A0D d sf keep≠0):craD d sf keep=d∧craF d sf keep=sf:=by unfold craD craF;rw[if_neg h,if_neg h];exact⟨rfl,rfl⟩
theorem LfOk.crash'{tx d:ByteArray}{sf:Nat}(h:LfOk tx d sf)(keep:Int):LfOk (cfLT tx d sf keep) (craD d sf keep) (craF d sf keep):=by
 unfold cfLT
 by_cases hz:A0D d sf keep=0
 ·rw[if_pos hz];exact h.crash hz
 ·rw[if_neg hz,(A3W hz).1,(A3W hz).2];exact h
theorem B2Z(g gl:Nat)(tx d:ByteArray)(sf:Nat)(keep:Int)(w:World)(h:LeafAt w g gl tx d sf)(hk:LfOk tx d sf):
 Calls Tryz.prog 27 #[.pointer (some ⟨g,0,none⟩),.int .i64 keep] w fun e w'=>e= .returned (.int .i64 (A0D d sf keep))∧LeafAt w' g gl (cfLT tx d sf keep) (craD d sf keep) (craF d sf keep)∧Gbs w w' [g,gl]:=by
 have HH:=AA h
 have HL:=AA (A4C gl d sf keep w h.log hk.size hk.safe)
 obtain⟨c0,c1,f0,f1,hg,hgl⟩:=h.cells
 clear h
 by_cases hz:A0D d sf keep=0
 ·have hk2:=hk.crash hz
  have HD:=AA hk2.size
  have HG:=AA hk2.reads.2
  have HT:Hid (cfLT tx d sf keep=A2x (craD d sf keep)):=by unfold Hid cfLT;rw[if_pos hz]
  rw[HT.out]
  rw[Hid,hz] at HL
  have HL:=AA HL
  rw[hz]
  clear hk2 hz hk
  generalize craD d sf keep=d' at*
  generalize craF d sf keep=sf' at*
  go_enter Tryz.func27,Tryz.ntmps27
  go_wp2_with fail
  refine HL.out.mono ?_
  rintro e w1 ⟨rfl,hL1,hg1⟩
  have H1:=AA (HH.out.logged hL1 hg1)
  have hB1:Gbs w w1 [g,gl]:=A3B hg1
  clear c0 c1 f0 f1 hL1 hg1
  go_wp2_with fail
  refine(A5c g gl tx d' sf' w1 H1.out HD.out HG.out).mono ?_
  rintro e w2 ⟨rfl,H2,hB2⟩
  have H2:=AA H2
  have hB:=hB1.trans hB2
  go_wp2_with fail
  go_ret
  exact⟨rfl,H2.out,hB⟩
 ·have HT:Hid (cfLT tx d sf keep=tx):=by unfold Hid cfLT;rw[if_neg hz]
  rw[HT.out]
  have g1:(A0D d sf keep !=0)=true:=by simpa using hz
  obtain⟨e1,e2⟩:=A3W hz
  rw[Hid,e1,e2] at HL
  have HL:=AA HL
  rw[e1,e2]
  clear e1 e2 hz hk
  generalize A0D d sf keep=q at*
  go_enter Tryz.func27,Tryz.ntmps27
  go_wp2_with fail
  refine HL.out.mono ?_
  rintro e w1 ⟨rfl,hL1,hg1⟩
  have H1:=AA (HH.out.logged hL1 hg1)
  have hB1:Gbs w w1 [g,gl]:=A3B hg1
  clear c0 c1 f0 f1 hL1 hg1
  go_wp2_with fail
  go_ret
  exact⟨rfl,H1.out,hB1⟩
theorem LeafAt.grown{w w':World}{g gl o:Nat}{tx d:ByteArray}{sf:Nat}(h:LeafAt w g gl tx d sf)(hb:w.grownBy w' (some o))(hg:g≠o)(hl:gl≠o):LeafAt w' g gl tx d sf:=
 ⟨h.leaf.grown hb (fun e=>hg (Aw e)),Blk.grown h.log hb (fun e=>hl (Aw e)),h.ne⟩
theorem LeafAt.relog{w:World}{g gl gn:Nat}{tx d d':ByteArray}{sf sf':Nat}(h:LeafAt w g gl tx d sf)(hn:LogAt w gn 187 d' sf')(hne:g≠gn):LeafAt (w.setCell ⟨g,1,none⟩ (.pointer (some ⟨gn,0,none⟩))) g gn tx d' sf':=
 ⟨h.leaf.set_ 1 _,Blk.far hn (fun e=>hne e.symm) _,hne⟩
def pkE(stop:Int):Int:=if 0≤stop∧stop≤3 then 0 else 1
def pkT(tx d:ByteArray)(sf:Nat)(stop:Int):ByteArray:=if stop=1∨stop=2 then cfLT tx d sf 0 else tx
def pkD(tx d:ByteArray)(sf:Nat)(stop:Int):ByteArray:=if stop=0∨stop=3 then newD tx else if stop=1∨stop=2 then craD d sf 0 else d
def pkF(tx d:ByteArray)(sf:Nat)(stop:Int):Nat:=if stop=0∨stop=3 then(newD tx).size else if stop=1∨stop=2 then craF d sf 0 else sf
theorem LfOk.pack{tx d:ByteArray}{sf:Nat}(h:LfOk tx d sf)(stop:Int):LfOk (pkT tx d sf stop) (pkD tx d sf stop) (pkF tx d sf stop):=by
 unfold pkT pkD pkF
 by_cases h1:stop=0∨stop=3
 ·rw[if_pos h1,if_pos h1,if_neg EE];exact LfOk.new_ h.text
 ·rw[if_neg h1,if_neg h1]
  by_cases h2:stop=1∨stop=2
  ·rw[if_pos h2,if_pos h2,if_pos h2];exact h.crash' 0
  ·rw[if_neg h2,if_neg h2,if_neg h2];exact h
def A4v(w:World)(g gl:Nat)(tx d:ByteArray)(sf:Nat)(stop:Int)(e:Ending)(w':World):Prop:=
 ∃gl',e= .returned (.int .i64 (pkE stop))∧(gl'=gl∨w.heap.size≤gl')∧LeafAt w' g gl' (pkT tx d sf stop) (pkD tx d sf stop) (pkF tx d sf stop)∧Gbs w w' [g,gl]
theorem B5U(g gl:Nat)(tx d:ByteArray)(sf:Nat)(w:World)(h:LeafAt w g gl tx d sf)(hk:LfOk tx d sf):
 Calls Tryz.prog 59 #[.pointer (some ⟨g,0,none⟩),.int .i64 1] w (A4v w g gl tx d sf 1):=by
 have HH:=AA h
 obtain⟨c0,c1,f0,f1,hg,hgl⟩:=h.cells
 have HN:=AA (LfOk.new_ hk.text)
 have HE:=AA (A4u hk.text)
 have HWH:=AA (A5C (LfOk.new_ hk.text))
 have HCR:=AA (A3d hk.safe)
 have HC2:=AA (hk.crash (A3d hk.safe))
 have htx:=hk.text
 have hds:=hk.size
 have hss:=hk.safe
 clear h hk
 go_enter Tryz.func59,Tryz.ntmps59
 go_wp2_with fail
 refine(A4I _).mono ?_
 rintro e w1 ⟨rfl,hw1⟩
 have hL1:LogAt w1 w.heap.size 187 ⟨#[]⟩ 0:=by rw[hw1];exact Blk.new_ w _ _
 have hb1:Below w.heap.size w w1:=by rw[hw1];exact Ds
 clear hw1
 have H1:=AA (HH.out.below hb1)
 have hgn1:g≠w.heap.size:=EE
 have hgn2:gl≠w.heap.size:=EE
 have hG1:Gbs w w1 [g,gl]:=Gbs.of_below hb1 _
 have HL1:=AA hL1
 clear c0 c1 f0 f1 hL1 hb1 hg hgl
 have HGB:=AA (fun(W W2:World) (a:Gbs w W [g,gl]) (b:W.grownBy W2 (some w.heap.size))=>a.gb b (.inr (AD _)))
 obtain⟨c0,c1,f0,f1,hg,hgl⟩:=H1.out.cells
 have hglt:w.heap.size<w1.heap.size:=Blk.lt HL1.out
 generalize hgn:w.heap.size=gn at*
 have HGN:=AA hgn
 clear hgn
 go_wp2_with fail
 refine(A2w gn ⟨#[]⟩ (recB tx) 0 _ HL1.out (AS _)).mono ?_
 rintro e w2 ⟨rfl,hL2,hg2⟩
 have H2:=AA (H1.out.grown hg2 hgn1 hgn2)
 have HL2:=AA hL2
 have hG2:=HGB.out _ _ hG1 hg2
 have hz2:=hg2.size
 clear c0 c1 f0 f1 hL2 hg2 hg hgl
 obtain⟨c0,c1,f0,f1,hg,hgl⟩:=H2.out.cells
 go_wp2_with fail
 refine(A4C gl d sf 0 _ H2.out.log hds hss).mono ?_
 rintro e w3 ⟨rfl,hL3,hg3⟩
 have H3:=AA (H2.out.logged hL3 hg3)
 have hG3:=hG2.trans (A3B hg3)
 clear c0 c1 f0 f1 hL3 hg3 hg hgl
 obtain⟨c0,c1,f0,f1,hg,hgl⟩:=H3.out.cells
 go_wp2_with fail
 refine(A5c g gl tx _ _ w3 H3.out HC2.out.size HC2.out.reads.2).mono ?_
 rintro e w4 ⟨rfl,H4,hB4⟩
 have H4:=AA H4
 have hG4:=hG3.trans hB4
 go_wp2_with fail
 go_ret
 refine⟨gl,rfl,.inl rfl, ?_,hG4⟩
 have e1:pkT tx d sf 1=A2x (craD d sf 0):=by unfold pkT cfLT;rw[if_pos EF,if_pos HCR.out]
 have e2:pkD tx d sf 1=craD d sf 0:=by unfold pkD;rw[if_neg EF,if_pos EF]
 have e3:pkF tx d sf 1=craF d sf 0:=by unfold pkF;rw[if_neg EF,if_pos EF]
 rw[e1,e2,e3]
 exact H4.out
theorem B5V(g gl:Nat)(tx d:ByteArray)(sf:Nat)(w:World)(h:LeafAt w g gl tx d sf)(hk:LfOk tx d sf):
 Calls Tryz.prog 59 #[.pointer (some ⟨g,0,none⟩),.int .i64 2] w (A4v w g gl tx d sf 2):=by
 have HH:=AA h
 obtain⟨c0,c1,f0,f1,hg,hgl⟩:=h.cells
 have HN:=AA (LfOk.new_ hk.text)
 have HE:=AA (A4u hk.text)
 have HWH:=AA (A5C (LfOk.new_ hk.text))
 have HCR:=AA (A3d hk.safe)
 have HC2:=AA (hk.crash (A3d hk.safe))
 have htx:=hk.text
 have hds:=hk.size
 have hss:=hk.safe
 clear h hk
 go_enter Tryz.func59,Tryz.ntmps59
 go_wp2_with fail
 refine(A4I _).mono ?_
 rintro e w1 ⟨rfl,hw1⟩
 have hL1:LogAt w1 w.heap.size 187 ⟨#[]⟩ 0:=by rw[hw1];exact Blk.new_ w _ _
 have hb1:Below w.heap.size w w1:=by rw[hw1];exact Ds
 clear hw1
 have H1:=AA (HH.out.below hb1)
 have hgn1:g≠w.heap.size:=EE
 have hgn2:gl≠w.heap.size:=EE
 have hG1:Gbs w w1 [g,gl]:=Gbs.of_below hb1 _
 have HL1:=AA hL1
 clear c0 c1 f0 f1 hL1 hb1 hg hgl
 have HGB:=AA (fun(W W2:World) (a:Gbs w W [g,gl]) (b:W.grownBy W2 (some w.heap.size))=>a.gb b (.inr (AD _)))
 obtain⟨c0,c1,f0,f1,hg,hgl⟩:=H1.out.cells
 have hglt:w.heap.size<w1.heap.size:=Blk.lt HL1.out
 generalize hgn:w.heap.size=gn at*
 have HGN:=AA hgn
 clear hgn
 go_wp2_with fail
 refine(A2w gn ⟨#[]⟩ (recB tx) 0 _ HL1.out (AS _)).mono ?_
 rintro e w2 ⟨rfl,hL2,hg2⟩
 have H2:=AA (H1.out.grown hg2 hgn1 hgn2)
 have HL2:=AA hL2
 have hG2:=HGB.out _ _ hG1 hg2
 have hz2:=hg2.size
 clear c0 c1 f0 f1 hL2 hg2 hg hgl
 obtain⟨c0,c1,f0,f1,hg,hgl⟩:=H2.out.cells
 go_wp2_with fail
 refine(A4C gl d sf 0 _ H2.out.log hds hss).mono ?_
 rintro e w3 ⟨rfl,hL3,hg3⟩
 have H3:=AA (H2.out.logged hL3 hg3)
 have hG3:=hG2.trans (A3B hg3)
 clear c0 c1 f0 f1 hL3 hg3 hg hgl
 obtain⟨c0,c1,f0,f1,hg,hgl⟩:=H3.out.cells
 go_wp2_with fail
 refine(A5c g gl tx _ _ w3 H3.out HC2.out.size HC2.out.reads.2).mono ?_
 rintro e w4 ⟨rfl,H4,hB4⟩
 have H4:=AA H4
 have hG4:=hG3.trans hB4
 go_wp2_with fail
 go_ret
 refine⟨gl,rfl,.inl rfl, ?_,hG4⟩
 have e1:pkT tx d sf 2=A2x (craD d sf 0):=by unfold pkT cfLT;rw[if_pos EF,if_pos HCR.out]
 have e2:pkD tx d sf 2=craD d sf 0:=by unfold pkD;rw[if_neg EF,if_pos EF]
 have e3:pkF tx d sf 2=craF d sf 0:=by unfold pkF;rw[if_neg EF,if_pos EF]
 rw[e1,e2,e3]
 exact H4.out
theorem B5W(g gl:Nat)(tx d:ByteArray)(sf:Nat)(w:World)(h:LeafAt w g gl tx d sf)(hk:LfOk tx d sf):
 Calls Tryz.prog 59 #[.pointer (some ⟨g,0,none⟩),.int .i64 0] w (A4v w g gl tx d sf 0):=by
 have HH:=AA h
 obtain⟨c0,c1,f0,f1,hg,hgl⟩:=h.cells
 have HN:=AA (LfOk.new_ hk.text)
 have HE:=AA (A4u hk.text)
 have HWH:=AA (A5C (LfOk.new_ hk.text))
 have HCR:=AA (A3d hk.safe)
 have HC2:=AA (hk.crash (A3d hk.safe))
 have htx:=hk.text
 have hds:=hk.size
 have hss:=hk.safe
 clear h hk
 go_enter Tryz.func59,Tryz.ntmps59
 go_wp2_with fail
 refine(A4I _).mono ?_
 rintro e w1 ⟨rfl,hw1⟩
 have hL1:LogAt w1 w.heap.size 187 ⟨#[]⟩ 0:=by rw[hw1];exact Blk.new_ w _ _
 have hb1:Below w.heap.size w w1:=by rw[hw1];exact Ds
 clear hw1
 have H1:=AA (HH.out.below hb1)
 have hgn1:g≠w.heap.size:=EE
 have hgn2:gl≠w.heap.size:=EE
 have hG1:Gbs w w1 [g,gl]:=Gbs.of_below hb1 _
 have HL1:=AA hL1
 clear c0 c1 f0 f1 hL1 hb1 hg hgl
 have HGB:=AA (fun(W W2:World) (a:Gbs w W [g,gl]) (b:W.grownBy W2 (some w.heap.size))=>a.gb b (.inr (AD _)))
 obtain⟨c0,c1,f0,f1,hg,hgl⟩:=H1.out.cells
 have hglt:w.heap.size<w1.heap.size:=Blk.lt HL1.out
 generalize hgn:w.heap.size=gn at*
 have HGN:=AA hgn
 clear hgn
 go_wp2_with fail
 refine(A2w gn ⟨#[]⟩ (recB tx) 0 _ HL1.out (AS _)).mono ?_
 rintro e w2 ⟨rfl,hL2,hg2⟩
 have H2:=AA (H1.out.grown hg2 hgn1 hgn2)
 have HL2:=AA hL2
 have hG2:=HGB.out _ _ hG1 hg2
 have hz2:=hg2.size
 clear c0 c1 f0 f1 hL2 hg2 hg hgl
 obtain⟨c0,c1,f0,f1,hg,hgl⟩:=H2.out.cells
 go_wp2_with fail
 refine(A5a gn _ 0 _ HL2.out).mono ?_
 rintro e w3 ⟨rfl,hL3,hg3⟩
 have H3:=AA (H2.out.grown hg3 hgn1 hgn2)
 have HL3:=AA hL3
 have hG3:=HGB.out _ _ hG2 hg3
 have hz3:=hg3.size
 clear c0 c1 f0 f1 hL3 hg3 hg hgl
 obtain⟨c0,c1,f0,f1,hg,hgl⟩:=H3.out.cells
 go_wp2_with fail
 go_ret
 exact⟨gn,rfl,.inr (DS HGN.out),H3.out.relog HL3.out hgn1,hG3.set_ (.inl EH) 1 _⟩
theorem B5X(g gl:Nat)(tx d:ByteArray)(sf:Nat)(w:World)(h:LeafAt w g gl tx d sf)(hk:LfOk tx d sf):
 Calls Tryz.prog 59 #[.pointer (some ⟨g,0,none⟩),.int .i64 3] w (A4v w g gl tx d sf 3):=by
 have HH:=AA h
 obtain⟨c0,c1,f0,f1,hg,hgl⟩:=h.cells
 have HN:=AA (LfOk.new_ hk.text)
 have HE:=AA (A4u hk.text)
 have HWH:=AA (A5C (LfOk.new_ hk.text))
 have HCR:=AA (A3d hk.safe)
 have HC2:=AA (hk.crash (A3d hk.safe))
 have htx:=hk.text
 have hds:=hk.size
 have hss:=hk.safe
 clear h hk
 go_enter Tryz.func59,Tryz.ntmps59
 go_wp2_with fail
 refine(A4I _).mono ?_
 rintro e w1 ⟨rfl,hw1⟩
 have hL1:LogAt w1 w.heap.size 187 ⟨#[]⟩ 0:=by rw[hw1];exact Blk.new_ w _ _
 have hb1:Below w.heap.size w w1:=by rw[hw1];exact Ds
 clear hw1
 have H1:=AA (HH.out.below hb1)
 have hgn1:g≠w.heap.size:=EE
 have hgn2:gl≠w.heap.size:=EE
 have hG1:Gbs w w1 [g,gl]:=Gbs.of_below hb1 _
 have HL1:=AA hL1
 clear c0 c1 f0 f1 hL1 hb1 hg hgl
 have HGB:=AA (fun(W W2:World) (a:Gbs w W [g,gl]) (b:W.grownBy W2 (some w.heap.size))=>a.gb b (.inr (AD _)))
 obtain⟨c0,c1,f0,f1,hg,hgl⟩:=H1.out.cells
 have hglt:w.heap.size<w1.heap.size:=Blk.lt HL1.out
 generalize hgn:w.heap.size=gn at*
 have HGN:=AA hgn
 clear hgn
 go_wp2_with fail
 refine(A2w gn ⟨#[]⟩ (recB tx) 0 _ HL1.out (AS _)).mono ?_
 rintro e w2 ⟨rfl,hL2,hg2⟩
 have H2:=AA (H1.out.grown hg2 hgn1 hgn2)
 have HL2:=AA hL2
 have hG2:=HGB.out _ _ hG1 hg2
 have hz2:=hg2.size
 clear c0 c1 f0 f1 hL2 hg2 hg hgl
 obtain⟨c0,c1,f0,f1,hg,hgl⟩:=H2.out.cells
 go_wp2_with fail
 refine(A5a gn _ 0 _ HL2.out).mono ?_
 rintro e w3 ⟨rfl,hL3,hg3⟩
 have H3:=AA (H2.out.grown hg3 hgn1 hgn2)
 have HL3:=AA hL3
 have hG3:=HGB.out _ _ hG2 hg3
 have hz3:=hg3.size
 clear c0 c1 f0 f1 hL3 hg3 hg hgl
 obtain⟨c0,c1,f0,f1,hg,hgl⟩:=H3.out.cells
 have H4:=AA (H3.out.relog HL3.out hgn1)
 have hG4:Gbs w (w3.setCell ⟨g,1,none⟩ (.pointer (some ⟨gn,0,none⟩))) [g,gl]:=hG3.set_ (.inl EH) 1 _
 go_wp2_with fail
 generalize w3.setCell ⟨g,1,none⟩ (.pointer (some ⟨gn,0,none⟩))=w4 at*
 clear c0 c1 f0 f1 hg hgl
 obtain⟨c0,c1,f0,f1,hg,hgl⟩:=H4.out.cells
 refine(A4C gn (newD tx) (newD tx).size 0 _ H4.out.log HN.out.size HN.out.safe).mono ?_
 rintro e w5 ⟨rfl,hL5,hg5⟩
 rw[HWH.out.2.1,HWH.out.2.2] at hL5
 have H5:=AA (H4.out.logged hL5 hg5)
 have hG5:=HGB.out _ _ hG4 hg5
 clear c0 c1 f0 f1 hL5 hg5 hg hgl
 obtain⟨c0,c1,f0,f1,hg,hgl⟩:=H5.out.cells
 go_wp2_with fail
 refine(A5c g gn tx _ _ w5 H5.out HN.out.size HN.out.reads.2).mono ?_
 rintro e w6 ⟨rfl,H6,hB6⟩
 rw[HN.out.reads.1] at H6
 have H6:=AA H6
 have hG6:Gbs w w6 [g,gl]:=⟨hB6.os.trans hG5.os,hB6.tape.trans hG5.tape,hB6.output.trans hG5.output,AQ hG5.size hB6.size,fun i hi hr=>(hB6.block i (AO hi hG5.size) (fun e=>by
  rcases Br.1 e with rfl|e
  ·exact hr EH
  ·have:=Ax.1 e;have:=HGN.out;omega)).trans (hG5.block i hi hr)⟩
 go_wp2_with fail
 go_ret
 exact⟨gn,rfl,.inr (DS HGN.out),H6.out,hG6⟩
theorem B4r(g gl:Nat)(tx d:ByteArray)(sf:Nat)(stop:Int)(w:World)(h:LeafAt w g gl tx d sf)(hk:LfOk tx d sf):
 Calls Tryz.prog 59 #[.pointer (some ⟨g,0,none⟩),.int .i64 stop] w (A4v w g gl tx d sf stop):=by
 by_cases h0:stop=0
 ·subst h0;exact B5W g gl tx d sf w h hk
 by_cases h1:stop=1
 ·subst h1;exact B5U g gl tx d sf w h hk
 by_cases h2:stop=2
 ·subst h2;exact B5V g gl tx d sf w h hk
 by_cases h3:stop=3
 ·subst h3;exact B5X g gl tx d sf w h hk
 have HH:=AA h
 have HA:Hid (pkE stop=1∧pkT tx d sf stop=tx∧pkD tx d sf stop=d∧pkF tx d sf stop=sf):=by
  unfold Hid pkE pkT pkD pkF
  rw[if_neg EE,if_neg EE,if_neg EE,if_neg EE,if_neg EE,if_neg EE]
  exact⟨rfl,rfl,rfl,rfl⟩
 have HP:Hid (∀w':World,w'=w→A4v w g gl tx d sf stop (.returned (.int .i64 1)) w'):=fun w' e=>by
  subst e
  exact⟨gl,by rw[HA.out.1],.inl rfl,by rw[HA.out.2.1,HA.out.2.2.1,HA.out.2.2.2];exact HH.out,Gbs.refl _ _⟩
 clear h hk
 by_cases hn:stop<0
 ·have g1:decide (stop<0)=true:=AG hn
  go_enter Tryz.func59,Tryz.ntmps59
  go_wp2_with fail
  go_ret
  exact HP.out _ rfl
 ·have g1:decide (stop<0)=false:=AC hn
  have g2:decide (3<stop)=true:=AG EE
  go_enter Tryz.func59,Tryz.ntmps59
  go_wp2_with fail
  go_ret
  exact HP.out _ rfl
theorem A3j{P:Program}{w:World}{ops:Array Oper}{rest:List Oper}{o:Oper}{a:Act}{Q:Exit→Act→World→Prop}(hgd:o.guard=none)(s x:Operand)(t:TypeId)(ho:o.op= .call {callee:= .builtin .append,args:= #[s,x],argTypes:= #[t,t]})(base:Nat)(e:TypeId)(i:TypeInfo)(z:Value)(size bytes:Nat)(ht:P.underlying t=some (.slice e))(hi:P.info? e=some i)(hz:i.zero=some z)(hsize:i.size=size)(hby:i.bytes=bytes)(hzs:z.cells.size=size)(hsz:0<size)(v:Value)(n:Nat)(xs:List Value)(hs:a.eval s=v)(hown:w.ownsRow base e size v n xs)(ad:Addr)(m c:Nat)(news:List Value)(hx:a.eval x= .slice (some ad) m c)(hl:news.length=m*size)(hnews:∀j u,news[j]? =some u→w.cell? (ad.add j)=some u)(h1:∀u∈news,u.oneCell'=true)(hbytes:(n+m)*bytes≤140737488355328)(hb0:0<bytes)(hbase:base≤w.heap.size)(h:∀v' w',w'.ownsRow base e size v' (n+m) (xs++news)→w.grownBy w' v.ownBlock→Below base w w'→(v'.ownBlock=v.ownBlock∨v'.ownBlock=some w.heap.size)→wpList P ops Q rest (a.put o.dst v') w'):wpList P ops Q (o::rest) a w:=
 wpList_plain hgd fun _ hK=>by
  obtain⟨v',w',hr,h2,h3,_,h5⟩:=run_append_own_at (P:=P) w base t o.type e i z size bytes ht hi hz hsize hby hzs hsz v n xs hown ad m c news hl hnews h1
   (by have:=CK (n+m) hb0;unfold maxLen;omega) hbytes hbase
  exact C1l
def Apart(v v':Value):Prop:=v.ownBlock=none∨v.ownBlock≠v'.ownBlock
theorem Apart.none_left(v:Value):Apart (.slice none 0 0) v:= .inl rfl
theorem Apart.comm{v v':Value}(h:Apart v v'):Apart v' v:=by
 by_cases h':v'.ownBlock=none
 ·exact .inl h'
 ·rcases h with h|h
  ·exact .inr (fun e=>h' (e.trans h))
  ·exact .inr (fun e=>h e.symm)
section
variable {w w':World} {base base':Nat} {e e':TypeId} {size size':Nat} {v v' u:Value} {n n':Nat} {xs xs':List Value}
theorem A5E(h:w.ownsRow base e size v n xs)(ha:Apart v u)(hg:w.grownBy w' u.ownBlock):w'.ownsRow base e size v n xs:=h.kept hg ha
theorem A5F(h:w.ownsRow base e size v n xs)(ha:Apart v u)(hu:v'.ownBlock=u.ownBlock∨v'.ownBlock=some w.heap.size):Apart v v':=by
 exact B9S
end
def OwnO(w:World)(base:Nat)(e:TypeId)(size:Nat)(v:Value)(n:Nat)(xs:List Value):Prop:=
 xs.length=n*size∧((v= .slice none 0 0∧n=0)∨∃g o cap cur,v= .slice (some ⟨g,o,none⟩) n cap∧base≤g∧w.heap[g]? =some (.cells cur e (0,0))∧n≤cap∧cap≤maxLen∧o+cap*size≤cur.size∧(cur.toList.drop o).take (n*size)=xs)
section
variable {w w':World} {base:Nat} {e:TypeId} {size:Nat} {v:Value} {n:Nat} {xs:List Value}
theorem OwnO.nil_:OwnO w base e size (.slice none 0 0) 0 []:=⟨by simp,.inl ⟨rfl,rfl⟩⟩
theorem OwnO.of_own(h:w.ownsRow base e size v n xs):OwnO w base e size v n xs:=by
 refine⟨h.1, ?_⟩
 rcases h.2 with h|⟨g,cap,cur,h1,h2,h3,h4,h5,h6,h7⟩
 ·exact .inl h
 ·exact .inr ⟨g,0,cap,cur,h1,h2,h3,h4,h5,by omega,by simpa using h7⟩
theorem OwnO.lt(h:OwnO w base e size v n xs):∀k,v.ownBlock=some k→base≤k∧k<w.heap.size:=by
 intro k hk
 rcases h.2 with⟨rfl,_⟩|⟨g,o,cap,cur,rfl,hb,hg,_⟩
 ·simp[Value.ownBlock] at hk
 ·simp[Value.ownBlock] at hk
  subst hk
  exact⟨hb,(Ay.1 hg).1⟩
theorem OwnO.kept{row:Option Nat}(h:OwnO w base e size v n xs)(hg:w.grownBy w' row)(hne:v.ownBlock=none∨v.ownBlock≠row):OwnO w' base e size v n xs:=by
 refine⟨h.1, ?_⟩
 rcases h.2 with hn|⟨g,o,cap,cur,rfl,hb,hgg,rest⟩
 ·exact .inl hn
 ·refine .inr ⟨g,o,cap,cur,rfl,hb, ?_,rest⟩
  rw[hg.block g (Ay.1 hgg).1 (by simpa[Value.ownBlock] using hne)]
  exact hgg
theorem OwnO.below(h:OwnO w base e size v n xs)(hb:Below w.heap.size w w'):OwnO w' base e size v n xs:=h.kept (A2M hb none) (by cases hv:v.ownBlock<;>simp)
theorem OwnO.ne_blk{g:Nat}{t:TypeId}{cs:Array Value}(h:OwnO w base e size v n xs)(hg:Blk w g t cs)(hne:e≠t):v.ownBlock=none∨v.ownBlock≠some g:=by
 rcases h.2 with⟨rfl,_⟩|⟨g',o,cap,cur,rfl,_,hh,_⟩
 ·exact .inl rfl
 ·refine .inr fun he=> ?_
  simp only[Value.ownBlock,Option.some.injEq] at he
  subst he
  unfold Blk at hg
  rw[hh] at hg
  injection hg with hg
  injection hg with _ ht
  exact hne ht
theorem OwnO.form(h:OwnO w base e size v n xs):∃A c,v= .slice A n c∧n≤c∧c≤maxLen∧Rd w w.heap.size size A n xs:=by
 have h0:=h
 rcases h.2 with⟨rfl,rfl⟩|⟨g,o,cap,cur,rfl,h2,h3,h4,h5,h6,h7⟩
 ·exact C0a
 ·refine⟨_,cap,rfl,h4,h5,h.1,fun _=>⟨_,rfl,(Ay.1 h3).1,fun j u hu=> ?_⟩⟩
  have hadd:(⟨g,o,none⟩:Addr).add j=⟨g,o+j,none⟩:=by unfold Addr.add;split<;>simp_all
  rw[hadd,cell_of_row w g (o+j) cur e (0,0) h3]
  rw[←h7] at hu
  have hj:j<n*size:=by
   have:=(Av.1 hu).1
   rw[AV] at this;omega
  rw[Ba hj,BU] at hu
  simpa using hu
theorem OwnO.front(h:OwnO w base e size v n xs)(A:Option Addr)(c k:Nat)(hv:v= .slice A n c)(hk:k≤n)(hA:A≠none):OwnO w base e size (.slice A k c) k (xs.take (k*size)):=by
 subst hv
 refine⟨by rw[AV,h.1];exact BX (BZ _ hk), ?_⟩
 rcases h.2 with⟨h1,_⟩|⟨g,o,cap,cur,h1,h2,h3,h4,h5,h6,h7⟩
 ·injection h1 with h1;exact absurd h1 hA
 ·injection h1 with h1 h1' h1''
  subst h1;subst h1''
  refine .inr ⟨g,o,c,cur,rfl,h2,h3,by omega,h5,h6, ?_⟩
  rw[←h7,DW,BX (BZ _ hk)]
theorem OwnO.behind(h:OwnO w base e size v n xs)(A:Option Addr)(c k:Nat)(hv:v= .slice A n c)(hk:k≤n)(hA:A≠none):OwnO w base e size (.slice (if c=k then A else A.map (·.add (k*size))) (n-k) (c-k)) (n-k) (xs.drop (k*size)):=by
 subst hv
 refine⟨by rw[AZ,h.1,Nat.sub_mul], ?_⟩
 rcases h.2 with⟨h1,_⟩|⟨g,o,cap,cur,h1,h2,h3,h4,h5,h6,h7⟩
 ·injection h1 with h1;exact absurd h1 hA
 ·injection h1 with h1 h1' h1''
  subst h1;subst h1''
  by_cases hc:c=k
  ·rw[if_pos hc]
   have hn0:n-k=0:=EE
   rw[hn0,show c-k=0 by omega]
   refine .inr ⟨g,o,0,cur,rfl,h2,h3,AD _,AS _,by omega, ?_⟩
   rw[Au (l:=xs) (by rw[h.1];exact BZ _ EE)];simp
  ·rw[if_neg hc]
   have hadd:(⟨g,o,none⟩:Addr).add (k*size)=⟨g,o+k*size,none⟩:=by unfold Addr.add;split<;>simp_all
   have hck:k*size+(c-k)*size=c*size:=by rw[←CG];congr 1;omega
   refine .inr ⟨g,o+k*size,c-k,cur,by rw[CC,hadd],h2,h3,by omega,by omega,by omega, ?_⟩
   rw[←h7,DX,List.drop_drop,Nat.sub_mul]
theorem B1O{P:Program}(t ty:TypeId)(i:TypeInfo)(z:Value)(bytes:Nat)(ht:P.underlying t=some (.slice e))(hi:P.info? e=some i)(hz:i.zero=some z)(hsize:i.size=size)(hby:i.bytes=bytes)(hzs:z.cells.size=size)(hsz:0<size)(hown:OwnO w base e size v n xs)(a:Addr)(m c:Nat)(news:List Value)(hl:news.length=m*size)(hnews:∀j u,news[j]? =some u→w.cell? (a.add j)=some u)(h1:∀u∈news,u.oneCell'=true)(h63:n+m≤maxLen)(hbytes:(n+m)*bytes≤140737488355328)(hbase:base≤w.heap.size):
 ∃v' w',(Builtin.append_ #[t,t] ty #[v,.slice (some a) m c]).run P w= .ok v' w'∧OwnO w' base e size v' (n+m) (xs++news)∧w.grownBy w' v.ownBlock∧
  (v'.ownBlock=v.ownBlock∨v'.ownBlock=some w.heap.size):=by
 rcases hown.2 with⟨rfl,rfl⟩|⟨g,o,cap,cur,rfl,hbg,hg,hnc,hcm,hcs,htake⟩
 ·have hx:xs=[]:=AU (by simpa using hown.1)
  subst hx
  obtain⟨v',w',h1,h2,h3,_,h5⟩:=run_append_own_at (P:=P) w base t ty e i z size bytes ht hi hz hsize hby hzs hsz (.slice none 0 0) 0 [] (Ad _ _ _ _) a m c news hl hnews h1 h63 hbytes hbase
  exact⟨v',w',h1,OwnO.of_own h2,h3,h5⟩
 ·subst hsize
  subst hby
  have hsmall:n+m≤9223372036854775807:=by simp only[maxLen] at h63;omega
  have hlen:(xs++news).length=(n+m)*i.size:=by rw[AJ,hown.1,hl,CG]
  by_cases hroom:n+m≤cap
  ·have hfit:o+n*i.size+news.length≤cur.size:=by
    rw[hl]
    have:=BZ i.size hroom
    rw[CG] at this
    omega
   have hf:=run_firstCells_some (P:=P) w i.size m a m c news hl hnews
   have hst:=run_storeCells_at P g (o+n*i.size) e news 0 cur w hg (by simpa using hfit) h1
   simp only[CN] at hst
   have hadd:(⟨g,o,none⟩:Addr).add (n*i.size)=⟨g,o+n*i.size,none⟩:=by unfold Addr.add;split<;>simp_all
   refine⟨.slice (some ⟨g,o,none⟩) (n+m) cap,w.setRow g (cur.toList.take (o+n*i.size)++news++cur.toList.drop (o+n*i.size+news.length)).toArray, ?_,⟨hlen,.inr ⟨g,o,cap,_,rfl,hbg,setRow_heap w g cur _ e _ hg,hroom,hcm, ?_, ?_⟩⟩,⟨rfl,rfl,rfl,by simp,fun k _ hk=>setRow_other w g k _ (fun e=>hk (by simp[Value.ownBlock,e]))⟩,.inl rfl⟩
   ·exact C0h
   ·simp only[Cx,AJ,AV,AZ,CL]
    omega
   ·have ht1:(cur.toList.take (o+n*i.size)).drop o=xs:=by rw[DX,Bw,htake]
    have hlo:o≤(cur.toList.take (o+n*i.size)).length:=by
     rw[AV,CL];omega
    simp only[AN]
    rw[Cv hlo,ht1,←AN,←hlen]
    exact Bz
  ·have holds:∀j u,xs[j]? =some u→w.cell? ((⟨g,o,none⟩:Addr).add j)=some u:=by
    obtain⟨A,c',hv,_,_,hr⟩:=hown.form
    intro j u hu
    rcases BP n with h0|h0
    ·have:=hown.1
     rw[h0,Nat.zero_mul] at this
     have hj:=(Av.1 hu).1
     omega
    ·obtain⟨ad,hA,_,hc⟩:=hr.2 h0
     injection hv with hv
     rw[←hv] at hA
     injection hA with hA
     rw[hA];exact hc j u hu
   have hr:=run_append_grow (P:=P) w t ty e i z ht hi hz ⟨g,o,none⟩ n cap xs hown.1 holds a m c news hl hnews EE EE (growslice_fits EE hbytes)
   have hge:=grownCap_ge w (n+m) cap e
   have hcm':grownCap w (n+m) cap e≤maxLen:=grownCap_le_maxLen w (n+m) cap e h63
   refine⟨_,_,hr,⟨hlen,.inr ⟨w.heap.size,0,_,_,rfl,hbase,DU w.drew _,hge,hcm', ?_, ?_⟩⟩,⟨rfl,rfl,rfl,by simp,fun k hk _=>heap_alloc_old w.drew _ hk⟩,.inr rfl⟩
   ·simp only[Array.size_append,Cx,size_zeroCells,hzs,hown.1,hl,←CG,An]
    apply DS
    congr 1
    omega
   ·simp only[Array.toList_append,AN,Az]
    rw[←AN,←hlen]
    exact Bz
theorem A3J{P:Program}{ops:Array Oper}{rest:List Oper}{o:Oper}{a:Act}{Q:Exit→Act→World→Prop}(hgd:o.guard=none)(s x:Operand)(t:TypeId)(ho:o.op= .call {callee:= .builtin .append,args:= #[s,x],argTypes:= #[t,t]})(base:Nat)(e:TypeId)(i:TypeInfo)(z:Value)(size bytes:Nat)(ht:P.underlying t=some (.slice e))(hi:P.info? e=some i)(hz:i.zero=some z)(hsize:i.size=size)(hby:i.bytes=bytes)(hzs:z.cells.size=size)(hsz:0<size)(v:Value)(n:Nat)(xs:List Value)(hs:a.eval s=v)(hown:OwnO w base e size v n xs)(ad:Addr)(m c:Nat)(news:List Value)(hx:a.eval x= .slice (some ad) m c)(hl:news.length=m*size)(hnews:∀j u,news[j]? =some u→w.cell? (ad.add j)=some u)(h1:∀u∈news,u.oneCell'=true)(hbytes:(n+m)*bytes≤140737488355328)(hb0:0<bytes)(hbase:base≤w.heap.size)(h:∀v' w',OwnO w' base e size v' (n+m) (xs++news)→w.grownBy w' v.ownBlock→Below base w w'→(v'.ownBlock=v.ownBlock∨v'.ownBlock=some w.heap.size)→wpList P ops Q rest (a.put o.dst v') w'):wpList P ops Q (o::rest) a w:=
 wpList_plain hgd fun _ hK=>by
  obtain⟨v',w',hr,h2,h3,h5⟩:=B1O (P:=P) t o.type i z bytes ht hi hz hsize hby hzs hsz hown ad m c news hl hnews h1
   (by have:=CK (n+m) hb0;unfold maxLen;omega) hbytes hbase
  exact C1l
end
end Go.Proofs.YtplgghjdidmcfaaGreatDoor
