/- Written anew, smaller, by a program of our own out of our texts. No condition of our own. -/
import Derived.Test.YtplgghjdidmcfaaGreatDoorQ27
set_option maxRecDepth 100000
set_option maxHeartbeats 16000000
set_option linter.all false
namespace Go.Proofs.YtplgghjdidmcfaaGreatDoor
open Go.RowKit
theorem C0P{P:Prop}(h:P:=by
 go_wp2_with fail
 (apply bodyPost_ret;(simp[results,Tryz.results8,go_sem];rfl);rfl)
 exact⟨rfl,HTO.out⟩
 ):P:=h
theorem C0S{P:Prop}(h:P:=by
 have h9:=(A0l HS2.out.row (j:=i*3+1) EE (.bool true)).2
 rw[A0k] at h9
 exact h9
 ):P:=h
theorem C1A{P:Prop}(h:P:=by
 clear hk
 go_enter Tryz.func8,Tryz.ntmps8
 go_wp2_with fail
 (apply bodyPost_ret;(simp[results,Tryz.results8,go_sem];rfl);rfl)
 exact⟨rfl,HF.out _ Ds⟩
 ):P:=h
theorem C1F{P:Prop}(h:P:=by
 go_wp2_with fail
 refine HX.out.mono ?_
 rintro e w2 ⟨rfl,hb2⟩
 have hb3:=A0h hb hb2
 go_wp2_with fail
 go_ret
 exact⟨A0S HV.out.symm,hb3⟩
 ):P:=h
theorem C1R{P:Prop}(h:P:=by
 go_wp2_with fail
 (apply bodyPost_ret;(simp[results,Tryz.results8,go_sem];rfl);rfl)
 exact⟨by rw[HME.out],HTO.out⟩
 ):P:=h
theorem C2f{P:Prop}(h:P:=by
 rw[if_neg (by rw[HV.out];decide)]
 exact HsTo.same h hb
 ):P:=h
theorem C2j{P:Prop}(h:P:=by
 go_wp2_with fail
 go_ret
 exact⟨rfl,HF.out _ Ds⟩
 ):P:=h
def idxZ(nm:ByteArray)(P:List Ps):Int:=if fnd nm P<P.length then(fnd nm P:Int) else-1
theorem B6t{nm:ByteArray}{P:List Ps}{k:Nat}(hk:k<P.length)(h:L P[k].nm=L nm)(hn:∀j (hj:j<P.length),j<k→L P[j].nm≠L nm):idxZ nm P=(k:Int):=by
 have e:fnd nm P=k:=by
  unfold fnd
  rw[List.findIdx_eq hk]
  exact⟨AG h,fun j hj=>AC (hn j EE hj)⟩
 unfold idxZ
 rw[e,if_pos hk]
theorem B6u{nm:ByteArray}{P:List Ps}(hn:∀j (hj:j<P.length),L P[j].nm≠L nm):idxZ nm P= -1:=by
 have e:fnd nm P=P.length:=by
  unfold fnd
  rw[List.findIdx_eq_length]
  intro x hx
  obtain⟨j,hj,rfl⟩:=List.getElem_of_mem hx
  exact AC (hn j hj)
 unfold idxZ
 rw[e,if_neg EE]
theorem A2b{nm:ByteArray}{P:List Ps}(h:fnd nm P<P.length):idxZ nm P=(fnd nm P:Int):=by unfold idxZ;rw[if_pos h]
theorem A8j{nm:ByteArray}{P:List Ps}(h:¬fnd nm P<P.length):idxZ nm P= -1:=by unfold idxZ;rw[if_neg h]
theorem A6j{w:World}{B n k:Nat}{A:Option Addr}{l:List Rc}(h:Rd w B 6 A n (A1b l))(hl:k<l.length)(hn:l.length=n):∃ad,A=some ad∧ad.block<B∧w.cell? (ad.add (k*6))=some (.string l[k].s.nm)∧w.cell? ⟨(ad.add (k*6)).block,(ad.add (k*6)).off+1,none⟩=some (.string l[k].s.tx)∧
 w.cell? ⟨(ad.add (k*6)).block,(ad.add (k*6)).off+2,none⟩=some (.string l[k].s.d)∧w.cell? ⟨(ad.add (k*6)).block,(ad.add (k*6)).off+3,none⟩=some (.int .i64 (l[k].s.sf:Int))∧
 w.cell? ⟨(ad.add (k*6)).block,(ad.add (k*6)).off+4,none⟩=some (.slice l[k].Ab l[k].s.back.length l[k].cb)∧w.cell? ⟨(ad.add (k*6)).block,(ad.add (k*6)).off+5,none⟩=some (.slice l[k].Ao l[k].s.onward.length l[k].co):=by
 obtain⟨ad,hl',e,hb,hc⟩:=Rd.at_rec B2d EE h (k:=k) EE
 refine⟨ad,e,hb,hc 0 _ rfl, ?_, ?_, ?_, ?_, ?_⟩
 ·have h1:=hc 1 _ rfl
  rwa[←A2A] at h1
 ·have h1:=hc 2 _ rfl
  rwa[←A2A] at h1
 ·have h1:=hc 3 _ rfl
  rwa[←A2A] at h1
 ·have h1:=hc 4 _ rfl
  rwa[←A2A] at h1
 ·have h1:=hc 5 _ rfl
  rwa[←A2A] at h1
def Rc.val(r:Rc):Value:= .agg #[.string r.s.nm,.string r.s.tx,.string r.s.d,.int .i64 (r.s.sf:Int),.slice r.Ab r.s.back.length r.cb,.slice r.Ao r.s.onward.length r.co]
theorem B3g(r:Rc)(nm:ByteArray)(g:Nat)(w:World)(hg:g<w.heap.size)(hc:w.cell? ⟨g,2,none⟩=some (.string nm)):
 Calls Tryz.prog 33 #[r.val,.pointer (some ⟨g,0,none⟩)] w fun e w'=>e= .returned (.bool (decide (L r.s.nm=L nm)))∧Below w.heap.size w w':=by
 have HE:Hid ((r.s.nm.toList==nm.toList)=decide (L r.s.nm=L nm)):=by
  exact C0e
 have hc1:∀o,(w.alloc o).cell? ⟨g,2,none⟩=some (.string nm):=fun o=>(BQ _ _ _ hg).trans hc
 rw[←HE.out]
 unfold Rc.val
 obtain⟨⟨pn,ptx,pd,psf,pb,po⟩,pAb,pcb,pAo,pco⟩:=r
 simp only
 generalize pb.length=nb at*
 generalize po.length=no at*
 go_enter Tryz.func33,Tryz.ntmps33
 go_wp2_with fail
 go_ret
 exact⟨rfl,Ds⟩
theorem A2i(ps:List Pc)(nm:ByteArray)(A:Option Addr)(m c B g:Nat)(w:World)(hr:Rd w B 3 A m (A1j ps))(hB:B≤w.heap.size)(hm:m≤1000)(hl0:ps.length=m)(hg:g<w.heap.size)(hc:w.cell? ⟨g,2,none⟩=some (.string nm)):
 Calls Tryz.prog 19 #[.slice A m c,.func (.func 20) #[] #[.pointer (some ⟨g,0,none⟩)]] w fun e w'=>e= .returned (.int .i64 (idxZ nm (ps.map Pc.s)))∧Below w.heap.size w w':=by
 have HR:=AA hr
 have HP:Hid ((ps.map Pc.s).length=ps.length):=AW ..
 clear hr
 go_enter Tryz.func19,Tryz.ntmps19
 go_wp2_with fail
 go_loopw [8] (fun iv wr=>∃k:Nat,k≤m∧iv= .int .i64 (k:Int)∧Hid (∀j (hj:j<(ps.map Pc.s).length),j<k→L (ps.map Pc.s)[j].nm≠L nm)∧Below w.heap.size w wr) (fun iv _=>m-(intOf iv).toNat)
 case atStart=>exact⟨0,AS _,rfl,fun j _ h=>absurd h EE,AI _ _⟩
 case round=>
  obtain⟨k,hk,rfl,HN,hb⟩:=hrel
  have hbs:=hb.size
  by_cases hlt:k<m
  ·have g1:decide ((k:Int)<(m:Int))=true:=AG EE
   have g1':decide (k<m)=true:=AG hlt
   have hl:k<ps.length:=EE
   obtain⟨ad,rfl,_,c0,c1,c2⟩:=A2Y (HR.out.below (hb.mono hB)) hl hl0
   have HX:=AA (B3a ps[k] nm g wr (AO hg hbs) ((hb.cell (p:=⟨g,2,none⟩) hg).trans hc))
   have HMP:Hid (∀h:k<(ps.map Pc.s).length,L (ps.map Pc.s)[k].nm=L ps[k].s.nm):=fun h=>by rw[Bf]
   have HKL:Hid (k<(ps.map Pc.s).length):=by rw[Hid,HP.out];exact hl
   by_cases he:L ps[k].s.nm=L nm
   ·have HV:Hid (idxZ nm (ps.map Pc.s)=(k:Int)):=B6t HKL.out ((HMP.out HKL.out).trans he) HN.out
    rw[AG he] at HX
    clear HMP he
    skip
    exact C1F
   ·have HN2:Hid (∀j (hj:j<(ps.map Pc.s).length),j<k+1→L (ps.map Pc.s)[j].nm≠L nm):=fun j hj hjk=>by
     by_cases e:j=k
     ·subst e
      rw[HMP.out hj];exact he
     ·exact HN.out j hj EE
    rw[AC he] at HX
    clear HMP he
    skip
    go_wp2_with fail
    refine HX.out.mono ?_
    rintro e w2 ⟨rfl,hb2⟩
    have hb3:=A0h hb hb2
    go_wp2_with fail
    go_roundw
    case rel=>exact⟨k+1,by omega,by go_num,HN2.out,hb3⟩
    case measure=>simp[intOf];omega
  ·obtain rfl:k=m:=EE
   have g1:decide ((k:Int)<(k:Int))=false:=AC EE
   have g1':decide (k<k)=false:=AC hlt
   have HV:Hid (idxZ nm (ps.map Pc.s)= -1):=B6u fun j hj=>HN.out j hj (by have:=HP.out;omega)
   go_wp2_with fail
   go_ret
   exact⟨A0S HV.out.symm,hb⟩
theorem A2p(ps:List Rc)(nm:ByteArray)(A:Option Addr)(m c B g:Nat)(w:World)(hr:Rd w B 6 A m (A1b ps))(hB:B≤w.heap.size)(hm:m≤1000)(hl0:ps.length=m)(hg:g<w.heap.size)(hc:w.cell? ⟨g,2,none⟩=some (.string nm)):
 Calls Tryz.prog 32 #[.slice A m c,.func (.func 33) #[] #[.pointer (some ⟨g,0,none⟩)]] w fun e w'=>e= .returned (.int .i64 (idxZ nm (ps.map Rc.s)))∧Below w.heap.size w w':=by
 have HR:=AA hr
 have HP:Hid ((ps.map Rc.s).length=ps.length):=AW ..
 clear hr
 go_enter Tryz.func32,Tryz.ntmps32
 go_wp2_with fail
 go_loopw [8] (fun iv wr=>∃k:Nat,k≤m∧iv= .int .i64 (k:Int)∧Hid (∀j (hj:j<(ps.map Rc.s).length),j<k→L (ps.map Rc.s)[j].nm≠L nm)∧Below w.heap.size w wr) (fun iv _=>m-(intOf iv).toNat)
 case atStart=>exact⟨0,AS _,rfl,fun j _ h=>absurd h EE,AI _ _⟩
 case round=>
  obtain⟨k,hk,rfl,HN,hb⟩:=hrel
  have hbs:=hb.size
  by_cases hlt:k<m
  ·have g1:decide ((k:Int)<(m:Int))=true:=AG EE
   have g1':decide (k<m)=true:=AG hlt
   have hl:k<ps.length:=EE
   obtain⟨ad,rfl,_,c0,c1,c2,c3,c4,c5⟩:=A6j (HR.out.below (hb.mono hB)) hl hl0
   have HX:=AA (B3g ps[k] nm g wr (AO hg hbs) ((hb.cell (p:=⟨g,2,none⟩) hg).trans hc))
   have HMP:Hid (∀h:k<(ps.map Rc.s).length,L (ps.map Rc.s)[k].nm=L ps[k].s.nm):=fun h=>by rw[Bf]
   have HKL:Hid (k<(ps.map Rc.s).length):=by rw[Hid,HP.out];exact hl
   by_cases he:L ps[k].s.nm=L nm
   ·have HV:Hid (idxZ nm (ps.map Rc.s)=(k:Int)):=B6t HKL.out ((HMP.out HKL.out).trans he) HN.out
    rw[AG he] at HX
    clear HMP he
    unfold Rc.val at HX
    exact C1F
   ·have HN2:Hid (∀j (hj:j<(ps.map Rc.s).length),j<k+1→L (ps.map Rc.s)[j].nm≠L nm):=fun j hj hjk=>by
     by_cases e:j=k
     ·subst e
      rw[HMP.out hj];exact he
     ·exact HN.out j hj EE
    rw[AC he] at HX
    clear HMP he
    unfold Rc.val at HX
    go_wp2_with fail
    refine HX.out.mono ?_
    rintro e w2 ⟨rfl,hb2⟩
    have hb3:=A0h hb hb2
    go_wp2_with fail
    go_roundw
    case rel=>exact⟨k+1,by omega,by go_num,HN2.out,hb3⟩
    case measure=>simp[intOf];omega
  ·obtain rfl:k=m:=EE
   have g1:decide ((k:Int)<(k:Int))=false:=AC EE
   have g1':decide (k<k)=false:=AC hlt
   have HV:Hid (idxZ nm (ps.map Rc.s)= -1):=B6u fun j hj=>HN.out j hj (by have:=HP.out;omega)
   go_wp2_with fail
   go_ret
   exact⟨A0S HV.out.symm,hb⟩
def Dd.val(x:Dd):Value:= .agg #[.int .i64 x.kind,.int .i64 x.num,.string x.name,.string x.text,.slice x.A x.m x.c]
def Dd.cells(x:Dd):Array Value:= #[.int .i64 x.kind,.int .i64 x.num,.string x.name,.string x.text,.slice x.A x.m x.c]
def bgE(k:Int)(n:Nat)(t:ByteArray):Int:=if 0≤k then 10 else if 6≤n then 11 else if 200<t.size then 2 else 0
theorem HsAt.add{w w6:World}{base gh:Nat}{v v6:Value}{ps:List Pc}{p':Pc}(h:HsAt w base gh v ps)(hp:PgAt w base p')(hd:∀q∈ps,∀k,foot q k→¬foot p' k)(ho:OwnO w6 base 61 3 v6 (ps.length+1) (A1j ps++p'.cells))(hg:w.grownBy w6 v.ownBlock):HsAt (w6.setCell ⟨gh,0,none⟩ v6) base gh v6 (ps++ [p']):=by
 have hbx:Blk w6 gh 57 #[v]:=h.blk.grown hg fun e=>by
  rcases h.boxRow with h1|h1
  ·rw[h1] at e;cases e
  ·exact h1 e.symm
 have hc:Chg w w6 (fun k=>v.ownBlock=some k):=Chg.of_gb hg fun k hk=>hk
 have hc2:=Chg.setH w6 ⟨gh,0,none⟩ v6
 have key:∀p,PgAt w base p→PgAt (w6.setCell ⟨gh,0,none⟩ v6) base p:=fun p hp=>by
  have h1:PgAt w6 base p:=hp.chg hc fun k hk he=>hp.off (h.rowTy he) EF EF EF EF hk
  refine h1.chg hc2 fun k hk he=> ?_
  subst he
  exact h1.off hbx.ty EF EF EF EF hk
 refine⟨hbx.set_ 0 _,h.lo, ?_,fun p hp'=> ?_, ?_⟩
 ·rw[AJ,A9D]
  exact(ho.far (ho.ne_blk hbx EF) 0 v6:_)
 ·rcases Af.1 hp' with h1|h1
  ·exact key p (h.pg p h1)
  ·rw[Ax.1 h1];exact key p' hp
 ·rw[List.pairwise_append]
  refine⟨h.dis,CW _ _,fun a ha b hb=> ?_⟩
  rw[Ax.1 hb]
  exact hd a ha
theorem HK.add{gh:Nat}{v v6:Value}{ps:List Pc}{p':Pc}{N M:Nat}(hv:v6.ownBlock=v.ownBlock∨v6.ownBlock=some M)(hM:N≤M)(hf:∀k,foot p' k→N≤k):∀k,HK gh v6 (ps++ [p']) k→HK gh v ps k∨N≤k:=by
 rintro k (rfl|hk|⟨q,hq,hk⟩)
 ·exact .inl (.inl rfl)
 ·rcases hv with hv|hv
  ·exact .inl (.inr (.inl (hv▸hk)))
  ·rw[hv] at hk
   cases hk
   exact .inr hM
 ·rcases Af.1 hq with hq|hq
  ·exact .inl (.inr (.inr ⟨q,hq,hk⟩))
  ·rw[Ax.1 hq] at hk
   exact .inr (hf k hk)
theorem B2j(k:Int)(x:Dd)(base gh:Nat)(v:Value)(ps:List Pc)(w:World)(h:HsAt w base gh v ps)(hn:ps.length≤6)(hb:base≤w.heap.size):
 Calls Tryz.prog 21 #[.pointer (some ⟨gh,0,none⟩),.int .i64 k,x.val] w fun e w'=>e= .returned (.int .i64 (bgE k ps.length x.text))∧HsTo w w' base gh v ps (if bgE k ps.length x.text=0 then ps.map Pc.s++ [A2z x.name x.text] else ps.map Pc.s):=by
 obtain⟨i0,hi0,hz0,hz1,hz2⟩:=info_parts B3O
 by_cases hk:0≤k
 ·have HV:Hid (bgE k ps.length x.text=10):=by unfold Hid bgE;rw[if_pos hk]
  have g1:decide (0≤k)=true:=AG hk
  have HF:Hid (∀W,Below w.heap.size w W→HsTo w W base gh v ps (if bgE k ps.length x.text=0 then ps.map Pc.s++ [A2z x.name x.text] else ps.map Pc.s)):=fun W hb=>by
   exact C2f
  rw[HV.out]
  rw[Hid,HV.out] at HF
  have HF:=AA HF
  obtain⟨xk,xn,xnm,xt,xA,xm,xc,xl⟩:=x
  unfold Dd.val
  simp only
  clear h
  go_enter Tryz.func21,Tryz.ntmps21
  exact C2j
 have g1:decide (0≤k)=false:=AC hk
 obtain⟨A0,c0',hv0,_,_,_⟩:=h.row.form
 have hcb:=h.blk.cell0
 have hgh:=h.blk.lt
 have hcbA:∀o,(w.alloc o).cell? ⟨gh,0,none⟩=some v:=fun o=>(BQ _ _ _ hgh).trans hcb
 by_cases h6:6≤ps.length
 ·have HV:Hid (bgE k ps.length x.text=11):=by unfold Hid bgE;rw[if_neg hk,if_pos h6]
  have g2:((ps.length:Int)==6)=true:=by rw[At];omega
  have g2':(ps.length==6)=true:=by rw[At];omega
  have HF:Hid (∀W,Below w.heap.size w W→HsTo w W base gh v ps (if bgE k ps.length x.text=0 then ps.map Pc.s++ [A2z x.name x.text] else ps.map Pc.s)):=fun W hb=>by
   exact C2f
  rw[HV.out]
  rw[Hid,HV.out] at HF
  have HF:=AA HF
  obtain⟨xk,xn,xnm,xt,xA,xm,xc,xl⟩:=x
  unfold Dd.val
  simp only
  subst hv0
  clear h
  generalize ps.length=N at*
  go_enter Tryz.func21,Tryz.ntmps21
  exact C2j
 have g2:((ps.length:Int)==6)=false:=by rw[AH];omega
 have g2':(ps.length==6)=false:=by rw[AH];omega
 by_cases ht:200<x.text.size
 ·have HV:Hid (bgE k ps.length x.text=2):=by unfold Hid bgE;rw[if_neg hk,if_neg h6,if_pos ht]
  have HNW:=AA (fun W=>B0K x.text ht W)
  have HF:Hid (∀W,Below w.heap.size w W→HsTo w W base gh v ps (if bgE k ps.length x.text=0 then ps.map Pc.s++ [A2z x.name x.text] else ps.map Pc.s)):=fun W hb=>by
   exact C2f
  rw[HV.out]
  rw[Hid,HV.out] at HF
  have HF:=AA HF
  obtain⟨xk,xn,xnm,xt,xA,xm,xc,xl⟩:=x
  unfold Dd.val
  simp only at HNW⊢
  subst hv0
  clear h
  go_enter Tryz.func21,Tryz.ntmps21
  go_wp2_with fail
  refine(HNW.out _).mono ?_
  rintro e w2 ⟨rfl,rfl⟩
  exact C2j
 have HV:Hid (bgE k ps.length x.text=0):=by unfold Hid bgE;rw[if_neg hk,if_neg h6,if_neg ht]
 rw[HV.out,if_pos rfl]
 have HEN:=AA (fun W=>A5U x.text EE W)
 have HLN:=AA (fun W=>B5S x.text W EE)
 obtain⟨xk,xn,xnm,xt,xA,xm,xc,xl⟩:=x
 unfold Dd.val
 simp only at HEN HLN ht⊢
 have HS:=AA h
 subst hv0
 obtain⟨wA,hwA⟩:∃wA,wA=w.alloc (.cells #[.int .i64 xk,.int .i64 xn,.string xnm,.string xt,.slice xA xm xc] 32):=⟨_,rfl⟩
 have hbk:Blk wA w.heap.size 32 #[.int .i64 xk,.int .i64 xn,.string xnm,.string xt,.slice xA xm xc]:=by rw[hwA];exact Blk.new_ _ _ _
 have hbA:Below w.heap.size w wA:=by rw[hwA];exact(AI _ _).alloc (AD _) _
 have HWA:=AA hwA
 clear h hwA hcbA
 go_enter Tryz.func21,Tryz.ntmps21
 go_wp2_with fail
 rw[←HWA.out]
 have k0:=hbk.cell 2
 have k1:=hbk.cell 3
 have kb:=(hbA.cell (p:=⟨gh,0,none⟩) hgh).trans hcb
 go_wp2_with fail
 refine(HEN.out wA).mono ?_
 rintro e w1 ⟨rfl,hE1,hb1⟩
 have HE1:=AA hE1
 have HB1:=AA (hbA.trans (hb1.mono hbA.size))
 have HK1:=AA (hbk.below' hb1)
 clear hE1 hb1 k0 k1 kb hbk
 have k0:=HK1.out.cell 2
 have k1:=HK1.out.cell 3
 go_wp2_with fail
 refine(HLN.out w1).mono ?_
 rintro e w2 ⟨rfl,hL2,hb2⟩
 have HL2:=AA hL2
 have HE2:=AA (HE1.out.below hb2)
 have HB2:=AA (HB1.out.trans (hb2.mono HB1.out.size))
 have HK2:=AA (HK1.out.below' hb2)
 have hs1:=HB1.out.size
 have hs2:=hb2.size
 have hA1:wA.heap.size<w1.heap.size:=HE1.out.blk.lt
 have hsA:=hbA.size
 have hlt2:=HL2.out.leaf.lt
 have hfr:(w2.drew).frozen? ⟨gh,0,none⟩=false:=(HS.out.below HB2.out).blk.frozen 0
 clear hL2 hb2 k0 k1 HE1 HB1 HK1 hbA
 have k0:=HK2.out.cell 2
 have kb:=(HB2.out.cell (p:=⟨gh,0,none⟩) hgh).trans hcb
 have hgd:w.heap.size<w2.heap.size:=HK2.out.lt
 have hgh2:gh<w2.heap.size:=Nat.lt_trans hgh hgd
 go_wp2_with fail
 obtain⟨F1,HF1,hcell10,hcell11⟩:=cells2 ⟨gh,0,none⟩ (.slice A0 ps.length c0') ⟨w.heap.size,2,none⟩ (.string xnm)
 refine A2a [(0,true),(1,true),(2,true),(3,true),(4,true),(5,true),(6,true),(7,true),(8,true),(9,true),(10,false),(11,false),(12,true),(13,true)] 14 _ F1 EG EG rfl EG rfl (fun _ _ _ _ _ h=>h) EG (by rw[HF1.out];first|((repeat' apply And.intro)<;>assumption)|trivial|(simp;done)|(simp[*];done)) (by rw[HF1.out];exact fun h=>h) ?_
 intro hne1
 simp only[A0i,AT,AP,AR]
 repeat(first|((first|refine Dt ?_|refine Du ?_);intro K hK;go_big_quiet_op;go_big_quiet_on)|((first|refine Dv ?_|refine Dw ?_);simp only[Act.put,AB,AE,AF]))
 refine A0a ?_
 go_wp2_with fail
 refine ED HF1 ?_
 repeat(first|((first|refine Dt ?_|refine Du ?_);intro K hK;go_big_quiet_op;go_big_quiet_on)|((first|refine Dv ?_|refine Dw ?_);simp only[Act.put,AB,AE,AF]))
 refine A0a ?_
 have hO1:∀o,OwnO (w2.alloc o).drew base 61 3 (.slice A0 ps.length c0') ps.length (A1j ps):=fun o=>(HS.out.below HB2.out).row.below Ds
 have hnw:∀j u,[Value.string xnm,.pointer (some ⟨wA.heap.size,0,none⟩),.pointer (some ⟨w1.heap.size+1,0,none⟩)][j]? =some u→((w2.alloc (.cells #[.string xnm,.pointer (some ⟨wA.heap.size,0,none⟩),.pointer (some ⟨w1.heap.size+1,0,none⟩)] 61)).drew).cell? (Addr.add ⟨w2.heap.size,0,none⟩ j)=some u:=fun j u hj=>A3m w2 #[.string xnm,.pointer (some ⟨wA.heap.size,0,none⟩),.pointer (some ⟨w1.heap.size+1,0,none⟩)] 61 j u hj
 have hb2D:Below w2.heap.size w2 (w2.alloc (.cells #[.string xnm,.pointer (some ⟨wA.heap.size,0,none⟩),.pointer (some ⟨w1.heap.size+1,0,none⟩)] 61)).drew:=Ds
 have hbD:Below w.heap.size w (w2.alloc (.cells #[.string xnm,.pointer (some ⟨wA.heap.size,0,none⟩),.pointer (some ⟨w1.heap.size+1,0,none⟩)] 61)).drew:=HB2.out.trans (hb2D.mono HB2.out.size)
 have hSD:=HS.out.below hbD
 have hpD:PgAt (w2.alloc (.cells #[.string xnm,.pointer (some ⟨wA.heap.size,0,none⟩),.pointer (some ⟨w1.heap.size+1,0,none⟩)] 61)).drew base ⟨A2z xnm xt,wA.heap.size,w1.heap.size+1,w1.heap.size,.slice none 0 0,.slice none 0 0⟩:=
  ⟨(HE2.out.lowerH EE).below hb2D,HL2.out.below hb2D,by show base≤w1.heap.size+1;omega,by show base≤w1.heap.size;omega⟩
 have hnew:∀k,foot ⟨A2z xnm xt,wA.heap.size,w1.heap.size+1,w1.heap.size,.slice none 0 0,.slice none 0 0⟩ k→w.heap.size≤k:=by
  rintro k ((rfl|hk|hk)|rfl|rfl)
  ·exact hsA
  ·simp[Value.ownBlock] at hk
  ·simp[Value.ownBlock] at hk
  ·show w.heap.size≤w1.heap.size+1;omega
  ·exact hs1
 have hk2D:=HK2.out.below' hb2D
 have HSD:=AA hSD
 have HPD:=AA hpD
 have HNEW:=AA hnew
 have HBD:=AA hbD
 have HKD:=AA hk2D
 have hszD:w.heap.size≤(w2.alloc (.cells #[.string xnm,.pointer (some ⟨wA.heap.size,0,none⟩),.pointer (some ⟨w1.heap.size+1,0,none⟩)] 61)).drew.heap.size:=hbD.size
 have HSZ:=AA hszD
 clear hSD hpD hnew hbD hk2D hb2D hszD
 go_wp2_with (at_builtin;go_must (refine A3J rfl _ _ _ rfl base 61 i0 _ 3 32 Tryz.underlying55 hi0 hz0 hz1 hz2 rfl EE _ ps.length (A1j ps) rfl (hO1 _) ⟨w2.heap.size,0,none⟩ 1 1 [.string xnm,.pointer (some ⟨wA.heap.size,0,none⟩),.pointer (some ⟨w1.heap.size+1,0,none⟩)] rfl rfl hnw (by simp[Value.oneCell']) EE EE (by simp;omega) ?_);intro v6 w6 hown6 hg6 hb6 ha6;obtain⟨A6,c6,rfl,_,_,_⟩:=OwnO.form hown6)
 have hadd:=HSD.out.add HPD.out (fun q hq k h1 h2=>by
  have:=((HS.out.pg q hq).lt h1).2
  have:=HNEW.out k h2
  omega) hown6 hg6
 have hne:some gh≠(Value.slice A0 ps.length c0').ownBlock:=fun e=>by
  rcases HS.out.boxRow with h|h
  ·rw[h] at e;cases e
  ·exact h e.symm
 have hneK:some w.heap.size≠(Value.slice A0 ps.length c0').ownBlock:=fun e=>by
  have:=(HS.out.row.lt _ e.symm).2
  omega
 have hbx6:=HSD.out.blk.grown hg6 hne
 have hbk6:=HKD.out.grown hg6 hneK
 have q0:w6.cell? ⟨gh,0,none⟩=some (.slice A0 ps.length c0'):=hbx6.cell0
 have q1:w6.cell? ⟨w.heap.size,2,none⟩=some (.string xnm):=hbk6.cell 2
 have qf:w6.frozen? ⟨gh,0,none⟩=false:=hbx6.frozen 0
 have HTO:Hid (HsTo w (w6.setCell ⟨gh,0,none⟩ (.slice A6 (ps.length+1) c6)) base gh (.slice A0 ps.length c0') ps (ps.map Pc.s++ [A2z xnm xt])):=by
  refine⟨⟨_,_,hadd,by rw[BM];rfl,HK.add ha6 HSZ.out HNEW.out⟩, ?_⟩
  refine(((Chg.ofB HBD.out).thenK (Chg.of_gb hg6 fun k hk=> .inr (.inl hk))).trans (Chg.setH w6 ⟨gh,0,none⟩ _) fun k hk _=> .inl hk)
 clear hadd hown6 hg6 hb6 ha6 hne hneK hbx6 hbk6 hO1 hnw
 refine ED HF1 ?_ ⟨q0,q1⟩
 repeat(first|((first|refine Dt ?_|refine Du ?_);intro K hK;go_big_quiet_op;go_big_quiet_on)|((first|refine Dv ?_|refine Dw ?_);simp only[Act.put,AB,AE,AF]))
 refine A0g ?_
 refine A6d ?_
 clear HF1 hcell10 hcell11 hne1
 go_wp2_with fail
 go_ret
 exact⟨rfl,HTO.out⟩
section
variable {P:List Ps} {x:Dd}
theorem B3P(h2:2≤x.kind)(h10:x.kind≤10)(h8:x.kind≠8)(h9:x.kind≠9)(hn:A0K x.name=true)(hi:fnd x.name P<P.length):hsE P x=pgE P[fnd x.name P] x∧hsT P x=⟨#[]⟩∧hsP P x=P.set (fnd x.name P) (pgP P[fnd x.name P] x):=by
 unfold hsE hsT hsP
 rw[if_neg EE,if_neg (by rw[hn];decide),if_neg EE,dif_pos hi,if_neg EE,dif_neg (fun h=>h8 h.1),if_neg EE,if_neg (by rw[hn];decide),if_neg EE,dif_pos hi,if_neg h8,if_neg h9]
 exact⟨rfl,rfl,rfl⟩
theorem B3Q(h8:x.kind=8)(hn:A0K x.name=true)(hi:fnd x.name P<P.length):hsE P x=0∧hsT P x=P[fnd x.name P].tx∧hsP P x=P:=by
 unfold hsE hsT hsP
 rw[if_neg EE,if_neg (by rw[hn];decide),if_neg EE,dif_pos hi,if_pos EE,dif_pos ⟨h8,hn,hi⟩,if_neg EE,if_neg (by rw[hn];decide),if_neg EE,dif_pos hi,if_pos h8]
 exact⟨rfl,rfl,rfl⟩
theorem B3R(h9:x.kind=9)(hn:A0K x.name=true)(hi:fnd x.name P<P.length):hsE P x=0∧hsT P x=⟨#[]⟩∧hsP P x=P.eraseIdx (fnd x.name P):=by
 unfold hsE hsT hsP
 rw[if_neg EE,if_neg (by rw[hn];decide),if_neg EE,dif_pos hi,if_pos EE,dif_neg (fun h=>by have:=h.1;omega),if_neg EE,if_neg (by rw[hn];decide),if_neg EE,dif_pos hi,if_neg EE,if_pos h9]
 exact⟨rfl,rfl,rfl⟩
theorem B3S(h2:2≤x.kind)(h10:x.kind≤10)(hn:A0K x.name=true)(hi:¬fnd x.name P<P.length):hsE P x=4∧hsT P x=⟨#[]⟩∧hsP P x=P:=by
 unfold hsE hsT hsP
 rw[if_neg EE,if_neg (by rw[hn];decide),if_neg EE,dif_neg hi,dif_neg (fun h=>hi h.2.2),if_neg EE,if_neg (by rw[hn];decide),if_neg EE,dif_neg hi]
 exact⟨rfl,rfl,rfl⟩
theorem B6v(h1:x.kind=1)(hn:A0K x.name=true):hsE P x=bgE (idxZ x.name P) P.length x.text∧hsT P x=⟨#[]⟩∧hsP P x=if bgE (idxZ x.name P) P.length x.text=0 then P++ [A2z x.name x.text] else P:=by
 have e1:hsE P x=if fnd x.name P<P.length then 10 else if 6≤P.length then 11 else if 200<x.text.size then 2 else 0:=by
  unfold hsE
  rw[if_neg EE,if_neg (by rw[hn];decide),if_pos h1]
 have e2:hsP P x=if fnd x.name P<P.length then P else if 6≤P.length then P else if 200<x.text.size then P else P++ [A2z x.name x.text]:=by
  unfold hsP
  rw[if_neg EE,if_neg (by rw[hn];decide),if_pos h1]
 have e3:hsT P x=⟨#[]⟩:=by
  unfold hsT
  rw[dif_neg (fun h=>by have:=h.1;omega)]
 have e4:bgE (idxZ x.name P) P.length x.text=if fnd x.name P<P.length then 10 else if 6≤P.length then 11 else if 200<x.text.size then 2 else 0:=by
  unfold bgE
  by_cases hi:fnd x.name P<P.length
  ·rw[if_pos hi,A2b hi,if_pos (Int.natCast_nonneg _)]
  ·rw[if_neg hi,A8j hi,if_neg EF]
 refine⟨e1.trans e4.symm,e3, ?_⟩
 rw[e2,e4]
 by_cases hi:fnd x.name P<P.length
 ·rw[if_pos hi,if_pos hi,if_neg EF]
 ·rw[if_neg hi,if_neg hi]
  by_cases h6:6≤P.length
  ·rw[if_pos h6,if_pos h6,if_neg EF]
  ·rw[if_neg h6,if_neg h6]
   by_cases ht:200<x.text.size
   ·rw[if_pos ht,if_pos ht,if_neg EF]
   ·rw[if_neg ht,if_neg ht,if_pos rfl]
theorem B0t(h1:1≤x.kind)(h10:x.kind≤10)(hn:A0K x.name=false):hsE P x=3∧hsT P x=⟨#[]⟩∧hsP P x=P:=by
 unfold hsE hsT hsP
 rw[if_neg EE,if_pos hn,dif_neg (fun h=>by rw[hn] at h;exact absurd h.2.1 EF),if_neg EE,if_pos hn]
 exact⟨rfl,rfl,rfl⟩
theorem B0u(h:x.kind<1∨10<x.kind):hsE P x=1∧hsT P x=⟨#[]⟩∧hsP P x=P:=by
 unfold hsE hsT hsP
 rw[if_pos h,dif_neg (fun h'=>by have:=h'.1;omega),if_pos h]
 exact⟨rfl,rfl,rfl⟩
end
theorem HsTo.pre{w wX w':World}{base gh:Nat}{v:Value}{ps:List Pc}{P':List Ps}(hb:Below w.heap.size w wX)(h:HsTo wX w' base gh v ps P'):HsTo w w' base gh v ps P':=by
 obtain⟨⟨v',ps',h1,h2,h3⟩,hc⟩:=h
 refine⟨⟨v',ps',h1,h2,fun k hk=> ?_⟩,(Chg.ofB hb).thenK hc⟩
 rcases h3 k hk with h|h
 ·exact .inl h
 ·exact .inr (AQ hb.size h)
structure DdOk (w:World) (K:Nat→Prop) (x:Dd):Prop where
 nm:x.name.size≤9223372036854775807
 tx:x.text.size≤9223372036854775807
 m:x.m≤9223372036854775807
 r:Rd w w.heap.size 3 x.A x.m (A0f x.l)
 o:0<x.m→∀ad,x.A=some ad→¬K ad.block
theorem A3E{w w2 W:World}{K K2:Nat→Prop}{A:Option Addr}{n size:Nat}{xs:List Value}(hb:Below w.heap.size w w2)(hc:Chg w2 W K)(hK:∀k,K k→K2 k)(ho:0<n→∀ad,A=some ad→¬K2 ad.block)(h:Rd w w.heap.size size A n xs):Rd W W.heap.size size A n xs:=by
 refine⟨h.1,fun hn=> ?_⟩
 obtain⟨ad,e,hlt,hcl⟩:=h.2 hn
 have h2:ad.block<w2.heap.size:=AO hlt hb.size
 refine⟨ad,e,AO h2 hc.size,fun j u hu=> ?_⟩
 rw[CJ (w:=w2) (hc.block (ad.add j).block (by rw[A0z];exact h2) (by rw[A0z];exact fun hk=>ho hn ad e (hK _ hk))),hb.cell (by rw[A0z];exact hlt)]
 exact hcl j u hu
abbrev A0Z(w:World)(base gh:Nat)(v:Value)(ps:List Pc)(x:Dd):Ending→World→Prop:=fun e w'=>e= .returned (.tuple #[.string (hsT (ps.map Pc.s) x),.int .i64 (hsE (ps.map Pc.s) x)])∧HsTo w w' base gh v ps (hsP (ps.map Pc.s) x)
theorem B2k(x:Dd)(base gh:Nat)(v:Value)(ps:List Pc)(w:World)(h:HsAt w base gh v ps)(hk:x.kind<1∨10<x.kind):Calls Tryz.prog 8 #[.pointer (some ⟨gh,0,none⟩),x.val] w (A0Z w base gh v ps x):=by
 obtain⟨h1,h2,h3⟩:=B0u (P:=ps.map Pc.s) hk
 have HF:Hid (∀W,Below w.heap.size w W→HsTo w W base gh v ps (ps.map Pc.s)):=fun W hb=>HsTo.same h hb
 unfold A0Z
 rw[h1,h2,h3]
 clear h h1 h2 h3
 obtain⟨xk,xn,xnm,xt,xA,xm,xc,xl⟩:=x
 unfold Dd.val
 simp only at hk⊢
 by_cases hk1:xk<1
 ·have g1:decide (xk<1)=true:=AG hk1
  exact C1A
 ·have g1:decide (xk<1)=false:=AC hk1
  have g2:decide (10<xk)=true:=AG EE
  exact C1A
theorem B2l(x:Dd)(base gh:Nat)(v:Value)(ps:List Pc)(w:World)(h:HsAt w base gh v ps)(hx:DdOk w (HK gh v ps) x)(hk1:1≤x.kind)(hk10:x.kind≤10)(hn:A0K x.name=false):Calls Tryz.prog 8 #[.pointer (some ⟨gh,0,none⟩),x.val] w (A0Z w base gh v ps x):=by
 obtain⟨h1,h2,h3⟩:=B0t (P:=ps.map Pc.s) hk1 hk10 hn
 have HF:Hid (∀W,Below w.heap.size w W→HsTo w W base gh v ps (ps.map Pc.s)):=fun W hb=>HsTo.same h hb
 have HNM:=AA (fun W=>A1y x.name W hx.nm)
 rw[hn] at HNM
 unfold A0Z
 rw[h1,h2,h3]
 clear h h1 h2 h3 hx hn
 obtain⟨xk,xn,xnm,xt,xA,xm,xc,xl⟩:=x
 unfold Dd.val
 simp only at hk1 hk10 HNM⊢
 have g1:decide (xk<1)=false:=AC EE
 have g2:decide (10<xk)=false:=AC EE
 have hbk:Blk (w.alloc (.cells #[.int .i64 xk,.int .i64 xn,.string xnm,.string xt,.slice xA xm xc] 32)) w.heap.size 32 #[.int .i64 xk,.int .i64 xn,.string xnm,.string xt,.slice xA xm xc]:=Blk.new_ _ _ _
 have hbA:Below w.heap.size w (w.alloc (.cells #[.int .i64 xk,.int .i64 xn,.string xnm,.string xt,.slice xA xm xc] 32)):=(AI _ _).alloc (AD _) _
 have HBK:=AA hbk
 have HBA:=AA hbA
 clear hbk hbA
 obtain⟨wA,hwA⟩:∃wA,wA=w.alloc (.cells #[.int .i64 xk,.int .i64 xn,.string xnm,.string xt,.slice xA xm xc] 32):=⟨_,rfl⟩
 rw[←hwA] at HBK HBA
 have HWA:=AA hwA
 clear hwA
 go_enter Tryz.func8,Tryz.ntmps8
 go_wp2_with fail
 rw[←HWA.out]
 have q0:=HBK.out.cell0
 have q2:=HBK.out.cell 2
 go_wp2_with fail
 refine(HNM.out _).mono ?_
 rintro e w1 ⟨rfl,hb1⟩
 go_wp2_with fail
 (apply bodyPost_ret;(simp[results,Tryz.results8,go_sem];rfl);rfl)
 exact⟨rfl,HF.out _ (HBA.out.trans (hb1.mono HBA.out.size))⟩
theorem B6w(x:Dd)(base gh:Nat)(v:Value)(ps:List Pc)(w:World)(h:HsAt w base gh v ps)(hk:HsOk (ps.map Pc.s))(hb:base≤w.heap.size)(hx:DdOk w (HK gh v ps) x)(hk1:x.kind=1)(hn:A0K x.name=true):Calls Tryz.prog 8 #[.pointer (some ⟨gh,0,none⟩),x.val] w (A0Z w base gh v ps x):=by
 obtain⟨hq1,hq2,hq3⟩:=B6v (P:=ps.map Pc.s) hk1 hn
 have HBG:=AA (fun W (hW:Below w.heap.size w W)=>B2j (idxZ x.name (ps.map Pc.s)) x base gh v ps W (h.below hW) (by have:=hk.n;rwa[AW] at this) (AQ hb hW.size))
 rw[AW] at hq1 hq3
 obtain⟨PN,hPN⟩:∃PN,(if bgE (idxZ x.name (ps.map Pc.s)) ps.length x.text=0 then ps.map Pc.s++ [A2z x.name x.text] else ps.map Pc.s)=PN:=⟨_,rfl⟩
 rw[hPN] at hq3 HBG
 clear hPN
 have HPS:=AA h
 have hnl:ps.length≤6:=by have:=hk.n;rwa[AW] at this
 obtain⟨A0,c0',hv0,_,_,hrd0⟩:=h.row.form
 have hcb:=h.blk.cell0
 have hgh:=h.blk.lt
 have HNM:=AA (fun W=>A1y x.name W hx.nm)
 rw[hn] at HNM
 have HID:=AA (fun W g (hW:Below w.heap.size w W) (hg:g<W.heap.size) (hc:W.cell? ⟨g,2,none⟩=some (.string x.name))=>A2i ps x.name A0 ps.length c0' w.heap.size g W (hrd0.below hW) hW.size EE rfl hg hc)
 unfold A0Z
 rw[hq1,hq2,hq3]
 clear hq1 hq2 hq3 hrd0
 have HX:=AA hx
 have HKK:=AA hk
 clear hn hx hk h
 obtain⟨xk,xn,xnm,xt,xA,xm,xc,xl⟩:=x
 unfold Dd.val
 unfold Dd.val at HBG
 simp only at hk1 HNM HID HBG⊢
 subst hk1
 generalize idxZ xnm (ps.map Pc.s)=z at*
 subst hv0
 have hbk:Blk (w.alloc (.cells #[.int .i64 1,.int .i64 xn,.string xnm,.string xt,.slice xA xm xc] 32)) w.heap.size 32 #[.int .i64 1,.int .i64 xn,.string xnm,.string xt,.slice xA xm xc]:=Blk.new_ _ _ _
 have hbA:Below w.heap.size w (w.alloc (.cells #[.int .i64 1,.int .i64 xn,.string xnm,.string xt,.slice xA xm xc] 32)):=(AI _ _).alloc (AD _) _
 have HBK:=AA hbk
 have HBA:=AA hbA
 clear hbk hbA
 obtain⟨wA,hwA⟩:∃wA,wA=w.alloc (.cells #[.int .i64 1,.int .i64 xn,.string xnm,.string xt,.slice xA xm xc] 32):=⟨_,rfl⟩
 rw[←hwA] at HBK HBA
 have HWA:=AA hwA
 clear hwA
 go_enter Tryz.func8,Tryz.ntmps8
 go_wp2_with fail
 rw[←HWA.out]
 have q0:=HBK.out.cell0
 have q1:=HBK.out.cell 1
 have q2:=HBK.out.cell 2
 have q3:=HBK.out.cell 3
 have q4:=HBK.out.cell 4
 go_wp2_with fail
 refine(HNM.out _).mono ?_
 rintro e w1 ⟨rfl,hb1⟩
 have HB1:=AA (HBA.out.trans (hb1.mono HBA.out.size))
 have HBK1:=AA (HBK.out.below' hb1)
 clear q0 q1 q2 q3 q4 hb1 HBK HBA
 have q0:=HBK1.out.cell0
 have kb:=(HB1.out.cell (p:=⟨gh,0,none⟩) hgh).trans hcb
 go_wp2_with fail
 refine(HID.out w1 w.heap.size HB1.out HBK1.out.lt (HBK1.out.cell 2)).mono ?_
 rintro e w2 ⟨rfl,hb2⟩
 have HB2:=AA (HB1.out.trans (hb2.mono HB1.out.size))
 have HBK2:=AA (HBK1.out.below' hb2)
 have hpre:=HPS.out.below HB2.out
 have HS2:=AA hpre
 clear q0 kb hb2 HB1 HBK1 HID HNM hpre
 have q0:=HBK2.out.cell0
 have q1:=HBK2.out.cell 1
 have q2:=HBK2.out.cell 2
 have q3:=HBK2.out.cell 3
 have q4:=HBK2.out.cell 4
 have kb:=(HB2.out.cell (p:=⟨gh,0,none⟩) hgh).trans hcb
 go_wp2_with fail
 refine(HBG.out w2 HB2.out).mono ?_
 rintro e w3 ⟨rfl,hto⟩
 have HTO:=AA (hto.pre HB2.out)
 clear hto
 exact C0P
theorem B4G(x:Dd)(base gh:Nat)(v:Value)(ps:List Pc)(w:World)(h:HsAt w base gh v ps)(hk:HsOk (ps.map Pc.s))(hx:DdOk w (HK gh v ps) x)(hk2:2≤x.kind)(hk10:x.kind≤10)(hn:A0K x.name=true)(hi:¬fnd x.name (ps.map Pc.s)<(ps.map Pc.s).length):Calls Tryz.prog 8 #[.pointer (some ⟨gh,0,none⟩),x.val] w (A0Z w base gh v ps x):=by
 obtain⟨hq1,hq2,hq3⟩:=B3S (P:=ps.map Pc.s) hk2 hk10 hn hi
 have hz:=A8j hi
 have HPS:=AA h
 have hnl:ps.length≤6:=by have:=hk.n;rwa[AW] at this
 obtain⟨A0,c0',hv0,_,_,hrd0⟩:=h.row.form
 have hcb:=h.blk.cell0
 have hgh:=h.blk.lt
 have HNM:=AA (fun W=>A1y x.name W hx.nm)
 rw[hn] at HNM
 have HID:=AA (fun W g (hW:Below w.heap.size w W) (hg:g<W.heap.size) (hc:W.cell? ⟨g,2,none⟩=some (.string x.name))=>A2i ps x.name A0 ps.length c0' w.heap.size g W (hrd0.below hW) hW.size EE rfl hg hc)
 unfold A0Z
 rw[hq1,hq2,hq3]
 clear hq1 hq2 hq3 hrd0
 have HX:=AA hx
 have HKK:=AA hk
 clear hn hx hk h
 rw[hz] at HID
 clear hz hi
 obtain⟨xk,xn,xnm,xt,xA,xm,xc,xl⟩:=x
 unfold Dd.val
 simp only at hk2 hk10 HNM HID⊢
 have g1:decide (xk<1)=false:=AC EE
 have g2:decide (10<xk)=false:=AC EE
 have g3:(xk==1)=false:=by rw[AH];omega
 subst hv0
 have hbk:Blk (w.alloc (.cells #[.int .i64 xk,.int .i64 xn,.string xnm,.string xt,.slice xA xm xc] 32)) w.heap.size 32 #[.int .i64 xk,.int .i64 xn,.string xnm,.string xt,.slice xA xm xc]:=Blk.new_ _ _ _
 have hbA:Below w.heap.size w (w.alloc (.cells #[.int .i64 xk,.int .i64 xn,.string xnm,.string xt,.slice xA xm xc] 32)):=(AI _ _).alloc (AD _) _
 have HBK:=AA hbk
 have HBA:=AA hbA
 clear hbk hbA
 obtain⟨wA,hwA⟩:∃wA,wA=w.alloc (.cells #[.int .i64 xk,.int .i64 xn,.string xnm,.string xt,.slice xA xm xc] 32):=⟨_,rfl⟩
 rw[←hwA] at HBK HBA
 have HWA:=AA hwA
 clear hwA
 go_enter Tryz.func8,Tryz.ntmps8
 go_wp2_with fail
 rw[←HWA.out]
 have q0:=HBK.out.cell0
 have q1:=HBK.out.cell 1
 have q2:=HBK.out.cell 2
 have q3:=HBK.out.cell 3
 have q4:=HBK.out.cell 4
 go_wp2_with fail
 refine(HNM.out _).mono ?_
 rintro e w1 ⟨rfl,hb1⟩
 have HB1:=AA (HBA.out.trans (hb1.mono HBA.out.size))
 have HBK1:=AA (HBK.out.below' hb1)
 clear q0 q1 q2 q3 q4 hb1 HBK HBA
 have q0:=HBK1.out.cell0
 have kb:=(HB1.out.cell (p:=⟨gh,0,none⟩) hgh).trans hcb
 go_wp2_with fail
 refine(HID.out w1 w.heap.size HB1.out HBK1.out.lt (HBK1.out.cell 2)).mono ?_
 rintro e w2 ⟨rfl,hb2⟩
 have HB2:=AA (HB1.out.trans (hb2.mono HB1.out.size))
 have HBK2:=AA (HBK1.out.below' hb2)
 have hpre:=HPS.out.below HB2.out
 have HS2:=AA hpre
 clear q0 kb hb2 HB1 HBK1 HID HNM hpre
 have q0:=HBK2.out.cell0
 have q1:=HBK2.out.cell 1
 have q2:=HBK2.out.cell 2
 have q3:=HBK2.out.cell 3
 have q4:=HBK2.out.cell 4
 have kb:=(HB2.out.cell (p:=⟨gh,0,none⟩) hgh).trans hcb
 go_wp2_with fail
 (apply bodyPost_ret;(simp[results,Tryz.results8,go_sem];rfl);rfl)
 exact⟨rfl,HsTo.pre HB2.out (HsTo.same HS2.out (AI _ _))⟩
theorem pg2{s:Ps}{x:Dd}(h:x.kind=2):pgE s x=edPE s x.l∧pgP s x=edP s x.l:=by constructor<;>simp[pgE,pgP,h]
theorem pg3{s:Ps}{x:Dd}(h:x.kind=3):pgE s x=unPE s∧pgP s x=unP s:=by constructor<;>simp[pgE,pgP,h]
theorem pg4{s:Ps}{x:Dd}(h:x.kind=4):pgE s x=rePE s∧pgP s x=reP s:=by constructor<;>simp[pgE,pgP,h]
theorem pg5{s:Ps}{x:Dd}(h:x.kind=5):pgE s x=0∧pgP s x=svP s:=by constructor<;>simp[pgE,pgP,h]
theorem pg6{s:Ps}{x:Dd}(h:x.kind=6):pgE s x=pkE x.num∧pgP s x=paP s x.num:=by constructor<;>simp[pgE,pgP,h]
theorem pg7{s:Ps}{x:Dd}(h:x.kind=7):pgE s x=crPE s x.num∧pgP s x=crP s x.num:=by constructor<;>simp[pgE,pgP,h]
theorem pg10{s:Ps}{x:Dd}(h:x.kind=10):pgE s x=mkPE s x.text∧pgP s x=mkP s x.text:=by constructor<;>simp[pgE,pgP,h]
theorem B6x(s:Ps)(l:List Ed):(edP s l).nm=s.nm:=by unfold edP;split<;>rfl
theorem unP_nm(s:Ps):(unP s).nm=s.nm:=by unfold unP;split<;>rfl
theorem reP_nm(s:Ps):(reP s).nm=s.nm:=by unfold reP;split<;>rfl
theorem paP_nm(s:Ps)(n:Int):(paP s n).nm=s.nm:=by unfold paP;split<;>rfl
theorem B6y(s:Ps)(n:Int):(crP s n).nm=s.nm:=by unfold crP;split<;>rfl
theorem A3p{ps:List Pc}{x:Dd}(h2:2≤x.kind)(h10:x.kind≤10)(h8:x.kind≠8)(h9:x.kind≠9)(hn:A0K x.name=true){i:Nat}(hi:fnd x.name (ps.map Pc.s)=i)(hil:i<ps.length):hsE (ps.map Pc.s) x=pgE ps[i].s x∧hsT (ps.map Pc.s) x=⟨#[]⟩∧hsP (ps.map Pc.s) x=(ps.map Pc.s).set i (pgP ps[i].s x):=by
 subst hi
 have hl:fnd x.name (ps.map Pc.s)<(ps.map Pc.s).length:=by rw[AW];exact hil
 obtain⟨h1,h3,h4⟩:=B3P (P:=ps.map Pc.s) h2 h10 h8 h9 hn hl
 rw[Bf] at h1 h4
 exact⟨h1,h3,h4⟩
structure Found (w:World) (base gh:Nat) (v:Value) (ps:List Pc) (x:Dd) (i:Nat):Prop where
 h:HsAt w base gh v ps
 k:HsOk (ps.map Pc.s)
 b:base≤w.heap.size
 d:DdOk w (HK gh v ps) x
 t:TabI w
 n:A0K x.name=true
 e:fnd x.name (ps.map Pc.s)=i
 l:i<ps.length
theorem houDo2(x:Dd)(base gh:Nat)(v:Value)(ps:List Pc)(i:Nat)(w:World)(hf:Found w base gh v ps x i)(hkk:x.kind=2):Calls Tryz.prog 8 #[.pointer (some ⟨gh,0,none⟩),x.val] w (A0Z w base gh v ps x):=by
 have hil:i<ps.length:=hf.l
 obtain⟨hq1,hq2,hq3⟩:=A3p (ps:=ps) (x:=x) EE EE EE EE hf.n hf.e hil
 rw[(pg2 hkk).1] at hq1
 rw[(pg2 hkk).2] at hq3
 obtain⟨h,hk,hb,hx,ht,hn,hi,_⟩:=hf
 have HTB:Hid (∀W,Below w.heap.size w W→TabI W):=fun W hW=>A0c ht hW
 have hz:idxZ x.name (ps.map Pc.s)=(i:Int):=by rw[A2b (by rw[hi,AW];exact hil),hi]
 have HOKP:Hid (PsOk ps[i].s):=hk.pg _ (Bm (Ac hil))
 have HPS:=AA h
 have hnl:ps.length≤6:=by have:=hk.n;rwa[AW] at this
 obtain⟨A0,c0',hv0,_,_,hrd0⟩:=h.row.form
 have hcb:=h.blk.cell0
 have hgh:=h.blk.lt
 have HNM:=AA (fun W=>A1y x.name W hx.nm)
 rw[hn] at HNM
 have HID:=AA (fun W g (hW:Below w.heap.size w W) (hg:g<W.heap.size) (hc:W.cell? ⟨g,2,none⟩=some (.string x.name))=>A2i ps x.name A0 ps.length c0' w.heap.size g W (hrd0.below hW) hW.size EE rfl hg hc)
 unfold A0Z
 rw[hq1,hq2,hq3]
 clear hq1 hq2 hq3 hrd0
 have HX:=AA hx
 have HKK:=AA hk
 clear hn hx hk h
 rw[hz] at HID
 clear hz hi ht
 obtain⟨xk,xn,xnm,xt,xA,xm,xc,xl⟩:=x
 unfold Dd.val
 simp only at*
 subst hkk
 subst hv0
 have hbk:Blk (w.alloc (.cells #[.int .i64 2,.int .i64 xn,.string xnm,.string xt,.slice xA xm xc] 32)) w.heap.size 32 #[.int .i64 2,.int .i64 xn,.string xnm,.string xt,.slice xA xm xc]:=Blk.new_ _ _ _
 have hbA:Below w.heap.size w (w.alloc (.cells #[.int .i64 2,.int .i64 xn,.string xnm,.string xt,.slice xA xm xc] 32)):=(AI _ _).alloc (AD _) _
 have HBK:=AA hbk
 have HBA:=AA hbA
 clear hbk hbA
 obtain⟨wA,hwA⟩:∃wA,wA=w.alloc (.cells #[.int .i64 2,.int .i64 xn,.string xnm,.string xt,.slice xA xm xc] 32):=⟨_,rfl⟩
 rw[←hwA] at HBK HBA
 have HWA:=AA hwA
 clear hwA
 go_enter Tryz.func8,Tryz.ntmps8
 go_wp2_with fail
 rw[←HWA.out]
 have q0:=HBK.out.cell0
 have q1:=HBK.out.cell 1
 have q2:=HBK.out.cell 2
 have q3:=HBK.out.cell 3
 have q4:=HBK.out.cell 4
 go_wp2_with fail
 refine(HNM.out _).mono ?_
 rintro e w1 ⟨rfl,hb1⟩
 have HB1:=AA (HBA.out.trans (hb1.mono HBA.out.size))
 have HBK1:=AA (HBK.out.below' hb1)
 clear q0 q1 q2 q3 q4 hb1 HBK HBA
 have q0:=HBK1.out.cell0
 have kb:=(HB1.out.cell (p:=⟨gh,0,none⟩) hgh).trans hcb
 go_wp2_with fail
 refine(HID.out w1 w.heap.size HB1.out HBK1.out.lt (HBK1.out.cell 2)).mono ?_
 rintro e w2 ⟨rfl,hb2⟩
 have HB2:=AA (HB1.out.trans (hb2.mono HB1.out.size))
 have HBK2:=AA (HBK1.out.below' hb2)
 have hpre:=HPS.out.below HB2.out
 have HS2:=AA hpre
 clear q0 kb hb2 HB1 HBK1 HID HNM hpre
 have q0:=HBK2.out.cell0
 have q1:=HBK2.out.cell 1
 have q2:=HBK2.out.cell 2
 have q3:=HBK2.out.cell 3
 have q4:=HBK2.out.cell 4
 have kb:=(HB2.out.cell (p:=⟨gh,0,none⟩) hgh).trans hcb
 obtain⟨A1,c1',hv1,_,_,hrd2⟩:=HS2.out.row.form
 cases hv1
 obtain⟨ad,rfl,_,p0,p1,p2⟩:=A2Y hrd2 hil rfl
 have hm:=Ac hil
 have hpl:(ad.add (i*3)).block<w2.heap.size:=by rw[A0z];exact(HS2.out.row.lt _ rfl).2
 have hpo:¬foot ps[i] (ad.add (i*3)).block:=by rw[A0z];exact HS2.out.offRow hm rfl
 have HPG:=AA (HS2.out.pg _ hm)
 have hb2:base≤w2.heap.size:=AQ hb HB2.out.size
 have HFIN:Hid (∀w' p' w3 s',PgTo3 w2 w3 base ps[i] s' p'→s'.nm=ps[i].s.nm→Ends (ad.add (i*3)) ps[i] p' w3 w'→HsTo w w' base gh (.slice (some ad) ps.length c0') ps ((ps.map Pc.s).set i s')):=fun w' p' w3 s' h1 h2 h3=>(HsTo.ofPage HS2.out hil h1 h2 h3).pre HB2.out
 have hfr:w2.frozen? (A1x (ad.add (i*3)))=false:=by
  exact C0S
 have HRE:Hid (∀W,Chg w2 W (foot ps[i])→Rd W W.heap.size 3 xA xm (A0f xl)):=fun W hc=>A3E HB2.out hc (fun k hk=> .inr (.inr ⟨ps[i],hm,hk⟩)) HX.out.o HX.out.r
 have HTB2:=AA (HTB.out w2 HB2.out)
 have hxm:=HX.out.m
 clear hrd2 hm HTB
 go_wp2_with fail
 refine(A8S ps[i] (ad.add (i*3)) base xl xA xm xc w2 HPG.out HOKP.out hb2 hpl hpo p1 p2 HRE.out hxm HTB2.out).mono ?_
 rintro e w3 ⟨rfl,p',hto⟩
 have HTO:=AA (HFIN.out w3 p' w3 _ hto.to3 (B6x _ _) (.inl ⟨rfl,hto.ge⟩))
 clear hto
 exact C0P
theorem A8T{α β:Type}(f:α→β):∀(l:List α) (i:Nat),(l.eraseIdx i).map f=(l.map f).eraseIdx i
 |[],i=>by simp
 |a::l,0=>by simp
 |a::l,i+1=>by rw[DZ,List.map_cons,List.map_cons,DZ,A8T f l i]
theorem B6z{α:Type}(l:List α)(i:Nat)(h:i<l.length):l.set i l[i]=l:=by simp
theorem A9H(s t:ByteArray)(w:World):Calls Tryz.prog 10 #[.string s,.string t] w fun e w'=>∃v,e= .returned (.tuple #[v,.int .i64 (mkE s t)])∧(mkE s t=0→OwnO w' w.heap.size 95 3 v (mkL s t).length (A0f (mkL s t)))∧Below w.heap.size w w':=by
 by_cases h:200<s.size∨200<t.size
 ·have e:mkE s t=2:=by unfold mkE;rw[if_pos h]
  rw[e]
  refine(B0P s t h w).mono ?_
  rintro e w' ⟨rfl,hb⟩
  exact⟨_,rfl,fun h=>absurd h EF,hb⟩
 ·by_cases h2:20<A3C s t
  ·have e:mkE s t=11:=by unfold mkE;rw[if_neg h,if_pos h2]
   rw[e]
   refine(B0Q s t EE EE h2 w).mono ?_
   rintro e w' ⟨rfl,hb⟩
   exact⟨_,rfl,fun h=>absurd h EF,hb⟩
  ·have e:mkE s t=0:=by unfold mkE;rw[if_neg h,if_neg h2]
   rw[e]
   refine(B0R s t EE EE EE w).mono ?_
   rintro e w' ⟨v,rfl,_,_,ho,hb⟩
   exact⟨v,rfl,fun _=>OwnO.of_own ho,hb⟩
theorem houDo3(x:Dd)(base gh:Nat)(v:Value)(ps:List Pc)(i:Nat)(w:World)(hf:Found w base gh v ps x i)(hkk:x.kind=3):Calls Tryz.prog 8 #[.pointer (some ⟨gh,0,none⟩),x.val] w (A0Z w base gh v ps x):=by
 have hil:i<ps.length:=hf.l
 obtain⟨hq1,hq2,hq3⟩:=A3p (ps:=ps) (x:=x) EE EE EE EE hf.n hf.e hil
 rw[(pg3 hkk).1] at hq1
 rw[(pg3 hkk).2] at hq3
 obtain⟨h,hk,hb,hx,ht,hn,hi,_⟩:=hf
 have HTB:Hid (∀W,Below w.heap.size w W→TabI W):=fun W hW=>A0c ht hW
 have hz:idxZ x.name (ps.map Pc.s)=(i:Int):=by rw[A2b (by rw[hi,AW];exact hil),hi]
 have HOKP:Hid (PsOk ps[i].s):=hk.pg _ (Bm (Ac hil))
 have HPS:=AA h
 have hnl:ps.length≤6:=by have:=hk.n;rwa[AW] at this
 obtain⟨A0,c0',hv0,_,_,hrd0⟩:=h.row.form
 have hcb:=h.blk.cell0
 have hgh:=h.blk.lt
 have HNM:=AA (fun W=>A1y x.name W hx.nm)
 rw[hn] at HNM
 have HID:=AA (fun W g (hW:Below w.heap.size w W) (hg:g<W.heap.size) (hc:W.cell? ⟨g,2,none⟩=some (.string x.name))=>A2i ps x.name A0 ps.length c0' w.heap.size g W (hrd0.below hW) hW.size EE rfl hg hc)
 unfold A0Z
 rw[hq1,hq2,hq3]
 clear hq1 hq2 hq3 hrd0
 have HX:=AA hx
 have HKK:=AA hk
 clear hn hx hk h
 rw[hz] at HID
 clear hz hi ht
 obtain⟨xk,xn,xnm,xt,xA,xm,xc,xl⟩:=x
 unfold Dd.val
 simp only at*
 subst hkk
 subst hv0
 have hbk:Blk (w.alloc (.cells #[.int .i64 3,.int .i64 xn,.string xnm,.string xt,.slice xA xm xc] 32)) w.heap.size 32 #[.int .i64 3,.int .i64 xn,.string xnm,.string xt,.slice xA xm xc]:=Blk.new_ _ _ _
 have hbA:Below w.heap.size w (w.alloc (.cells #[.int .i64 3,.int .i64 xn,.string xnm,.string xt,.slice xA xm xc] 32)):=(AI _ _).alloc (AD _) _
 have HBK:=AA hbk
 have HBA:=AA hbA
 clear hbk hbA
 obtain⟨wA,hwA⟩:∃wA,wA=w.alloc (.cells #[.int .i64 3,.int .i64 xn,.string xnm,.string xt,.slice xA xm xc] 32):=⟨_,rfl⟩
 rw[←hwA] at HBK HBA
 have HWA:=AA hwA
 clear hwA
 go_enter Tryz.func8,Tryz.ntmps8
 go_wp2_with fail
 rw[←HWA.out]
 have q0:=HBK.out.cell0
 have q1:=HBK.out.cell 1
 have q2:=HBK.out.cell 2
 have q3:=HBK.out.cell 3
 have q4:=HBK.out.cell 4
 go_wp2_with fail
 refine(HNM.out _).mono ?_
 rintro e w1 ⟨rfl,hb1⟩
 have HB1:=AA (HBA.out.trans (hb1.mono HBA.out.size))
 have HBK1:=AA (HBK.out.below' hb1)
 clear q0 q1 q2 q3 q4 hb1 HBK HBA
 have q0:=HBK1.out.cell0
 have kb:=(HB1.out.cell (p:=⟨gh,0,none⟩) hgh).trans hcb
 go_wp2_with fail
 refine(HID.out w1 w.heap.size HB1.out HBK1.out.lt (HBK1.out.cell 2)).mono ?_
 rintro e w2 ⟨rfl,hb2⟩
 have HB2:=AA (HB1.out.trans (hb2.mono HB1.out.size))
 have HBK2:=AA (HBK1.out.below' hb2)
 have hpre:=HPS.out.below HB2.out
 have HS2:=AA hpre
 clear q0 kb hb2 HB1 HBK1 HID HNM hpre
 have q0:=HBK2.out.cell0
 have q1:=HBK2.out.cell 1
 have q2:=HBK2.out.cell 2
 have q3:=HBK2.out.cell 3
 have q4:=HBK2.out.cell 4
 have kb:=(HB2.out.cell (p:=⟨gh,0,none⟩) hgh).trans hcb
 obtain⟨A1,c1',hv1,_,_,hrd2⟩:=HS2.out.row.form
 cases hv1
 obtain⟨ad,rfl,_,p0,p1,p2⟩:=A2Y hrd2 hil rfl
 have hm:=Ac hil
 have hpl:(ad.add (i*3)).block<w2.heap.size:=by rw[A0z];exact(HS2.out.row.lt _ rfl).2
 have hpo:¬foot ps[i] (ad.add (i*3)).block:=by rw[A0z];exact HS2.out.offRow hm rfl
 have HPG:=AA (HS2.out.pg _ hm)
 have hb2:base≤w2.heap.size:=AQ hb HB2.out.size
 have HFIN:Hid (∀w' p' w3 s',PgTo3 w2 w3 base ps[i] s' p'→s'.nm=ps[i].s.nm→Ends (ad.add (i*3)) ps[i] p' w3 w'→HsTo w w' base gh (.slice (some ad) ps.length c0') ps ((ps.map Pc.s).set i s')):=fun w' p' w3 s' h1 h2 h3=>(HsTo.ofPage HS2.out hil h1 h2 h3).pre HB2.out
 have hfr:w2.frozen? (A1x (ad.add (i*3)))=false:=by
  exact C0S
 have HRE:Hid (∀W,Chg w2 W (foot ps[i])→Rd W W.heap.size 3 xA xm (A0f xl)):=fun W hc=>A3E HB2.out hc (fun k hk=> .inr (.inr ⟨ps[i],hm,hk⟩)) HX.out.o HX.out.r
 have HTB2:=AA (HTB.out w2 HB2.out)
 have hxm:=HX.out.m
 clear hrd2 hm HTB
 go_wp2_with fail
 refine(B4E ps[i] (ad.add (i*3)) base w2 HPG.out HOKP.out hb2 hpl hpo p1 p2).mono ?_
 rintro e w3 ⟨rfl,p',hto⟩
 have HTO:=AA (HFIN.out w3 p' w3 _ hto.to3 (unP_nm _) (.inl ⟨rfl,hto.ge⟩))
 clear hto
 exact C0P
theorem houDo4(x:Dd)(base gh:Nat)(v:Value)(ps:List Pc)(i:Nat)(w:World)(hf:Found w base gh v ps x i)(hkk:x.kind=4):Calls Tryz.prog 8 #[.pointer (some ⟨gh,0,none⟩),x.val] w (A0Z w base gh v ps x):=by
 have hil:i<ps.length:=hf.l
 obtain⟨hq1,hq2,hq3⟩:=A3p (ps:=ps) (x:=x) EE EE EE EE hf.n hf.e hil
 rw[(pg4 hkk).1] at hq1
 rw[(pg4 hkk).2] at hq3
 obtain⟨h,hk,hb,hx,ht,hn,hi,_⟩:=hf
 have HTB:Hid (∀W,Below w.heap.size w W→TabI W):=fun W hW=>A0c ht hW
 have hz:idxZ x.name (ps.map Pc.s)=(i:Int):=by rw[A2b (by rw[hi,AW];exact hil),hi]
 have HOKP:Hid (PsOk ps[i].s):=hk.pg _ (Bm (Ac hil))
 have HPS:=AA h
 have hnl:ps.length≤6:=by have:=hk.n;rwa[AW] at this
 obtain⟨A0,c0',hv0,_,_,hrd0⟩:=h.row.form
 have hcb:=h.blk.cell0
 have hgh:=h.blk.lt
 have HNM:=AA (fun W=>A1y x.name W hx.nm)
 rw[hn] at HNM
 have HID:=AA (fun W g (hW:Below w.heap.size w W) (hg:g<W.heap.size) (hc:W.cell? ⟨g,2,none⟩=some (.string x.name))=>A2i ps x.name A0 ps.length c0' w.heap.size g W (hrd0.below hW) hW.size EE rfl hg hc)
 unfold A0Z
 rw[hq1,hq2,hq3]
 clear hq1 hq2 hq3 hrd0
 have HX:=AA hx
 have HKK:=AA hk
 clear hn hx hk h
 rw[hz] at HID
 clear hz hi ht
 obtain⟨xk,xn,xnm,xt,xA,xm,xc,xl⟩:=x
 unfold Dd.val
 simp only at*
 subst hkk
 subst hv0
 have hbk:Blk (w.alloc (.cells #[.int .i64 4,.int .i64 xn,.string xnm,.string xt,.slice xA xm xc] 32)) w.heap.size 32 #[.int .i64 4,.int .i64 xn,.string xnm,.string xt,.slice xA xm xc]:=Blk.new_ _ _ _
 have hbA:Below w.heap.size w (w.alloc (.cells #[.int .i64 4,.int .i64 xn,.string xnm,.string xt,.slice xA xm xc] 32)):=(AI _ _).alloc (AD _) _
 have HBK:=AA hbk
 have HBA:=AA hbA
 clear hbk hbA
 obtain⟨wA,hwA⟩:∃wA,wA=w.alloc (.cells #[.int .i64 4,.int .i64 xn,.string xnm,.string xt,.slice xA xm xc] 32):=⟨_,rfl⟩
 rw[←hwA] at HBK HBA
 have HWA:=AA hwA
 clear hwA
 go_enter Tryz.func8,Tryz.ntmps8
 go_wp2_with fail
 rw[←HWA.out]
 have q0:=HBK.out.cell0
 have q1:=HBK.out.cell 1
 have q2:=HBK.out.cell 2
 have q3:=HBK.out.cell 3
 have q4:=HBK.out.cell 4
 go_wp2_with fail
 refine(HNM.out _).mono ?_
 rintro e w1 ⟨rfl,hb1⟩
 have HB1:=AA (HBA.out.trans (hb1.mono HBA.out.size))
 have HBK1:=AA (HBK.out.below' hb1)
 clear q0 q1 q2 q3 q4 hb1 HBK HBA
 have q0:=HBK1.out.cell0
 have kb:=(HB1.out.cell (p:=⟨gh,0,none⟩) hgh).trans hcb
 go_wp2_with fail
 refine(HID.out w1 w.heap.size HB1.out HBK1.out.lt (HBK1.out.cell 2)).mono ?_
 rintro e w2 ⟨rfl,hb2⟩
 have HB2:=AA (HB1.out.trans (hb2.mono HB1.out.size))
 have HBK2:=AA (HBK1.out.below' hb2)
 have hpre:=HPS.out.below HB2.out
 have HS2:=AA hpre
 clear q0 kb hb2 HB1 HBK1 HID HNM hpre
 have q0:=HBK2.out.cell0
 have q1:=HBK2.out.cell 1
 have q2:=HBK2.out.cell 2
 have q3:=HBK2.out.cell 3
 have q4:=HBK2.out.cell 4
 have kb:=(HB2.out.cell (p:=⟨gh,0,none⟩) hgh).trans hcb
 obtain⟨A1,c1',hv1,_,_,hrd2⟩:=HS2.out.row.form
 cases hv1
 obtain⟨ad,rfl,_,p0,p1,p2⟩:=A2Y hrd2 hil rfl
 have hm:=Ac hil
 have hpl:(ad.add (i*3)).block<w2.heap.size:=by rw[A0z];exact(HS2.out.row.lt _ rfl).2
 have hpo:¬foot ps[i] (ad.add (i*3)).block:=by rw[A0z];exact HS2.out.offRow hm rfl
 have HPG:=AA (HS2.out.pg _ hm)
 have hb2:base≤w2.heap.size:=AQ hb HB2.out.size
 have HFIN:Hid (∀w' p' w3 s',PgTo3 w2 w3 base ps[i] s' p'→s'.nm=ps[i].s.nm→Ends (ad.add (i*3)) ps[i] p' w3 w'→HsTo w w' base gh (.slice (some ad) ps.length c0') ps ((ps.map Pc.s).set i s')):=fun w' p' w3 s' h1 h2 h3=>(HsTo.ofPage HS2.out hil h1 h2 h3).pre HB2.out
 have hfr:w2.frozen? (A1x (ad.add (i*3)))=false:=by
  exact C0S
 have HRE:Hid (∀W,Chg w2 W (foot ps[i])→Rd W W.heap.size 3 xA xm (A0f xl)):=fun W hc=>A3E HB2.out hc (fun k hk=> .inr (.inr ⟨ps[i],hm,hk⟩)) HX.out.o HX.out.r
 have HTB2:=AA (HTB.out w2 HB2.out)
 have hxm:=HX.out.m
 clear hrd2 hm HTB
 go_wp2_with fail
 refine(B2h ps[i] (ad.add (i*3)) base w2 HPG.out HOKP.out hb2 hpl hpo p1 p2).mono ?_
 rintro e w3 ⟨rfl,p',hto⟩
 have HTO:=AA (HFIN.out w3 p' w3 _ hto.to3 (reP_nm _) (.inl ⟨rfl,hto.ge⟩))
 clear hto
 exact C0P
theorem houDo5(x:Dd)(base gh:Nat)(v:Value)(ps:List Pc)(i:Nat)(w:World)(hf:Found w base gh v ps x i)(hkk:x.kind=5):Calls Tryz.prog 8 #[.pointer (some ⟨gh,0,none⟩),x.val] w (A0Z w base gh v ps x):=by
 have hil:i<ps.length:=hf.l
 obtain⟨hq1,hq2,hq3⟩:=A3p (ps:=ps) (x:=x) EE EE EE EE hf.n hf.e hil
 rw[(pg5 hkk).1] at hq1
 rw[(pg5 hkk).2] at hq3
 obtain⟨h,hk,hb,hx,ht,hn,hi,_⟩:=hf
 have HTB:Hid (∀W,Below w.heap.size w W→TabI W):=fun W hW=>A0c ht hW
 have hz:idxZ x.name (ps.map Pc.s)=(i:Int):=by rw[A2b (by rw[hi,AW];exact hil),hi]
 have HOKP:Hid (PsOk ps[i].s):=hk.pg _ (Bm (Ac hil))
 have HPS:=AA h
 have hnl:ps.length≤6:=by have:=hk.n;rwa[AW] at this
 obtain⟨A0,c0',hv0,_,_,hrd0⟩:=h.row.form
 have hcb:=h.blk.cell0
 have hgh:=h.blk.lt
 have HNM:=AA (fun W=>A1y x.name W hx.nm)
 rw[hn] at HNM
 have HID:=AA (fun W g (hW:Below w.heap.size w W) (hg:g<W.heap.size) (hc:W.cell? ⟨g,2,none⟩=some (.string x.name))=>A2i ps x.name A0 ps.length c0' w.heap.size g W (hrd0.below hW) hW.size EE rfl hg hc)
 unfold A0Z
 rw[hq1,hq2,hq3]
 clear hq1 hq2 hq3 hrd0
 have HX:=AA hx
 have HKK:=AA hk
 clear hn hx hk h
 rw[hz] at HID
 clear hz hi ht
 obtain⟨xk,xn,xnm,xt,xA,xm,xc,xl⟩:=x
 unfold Dd.val
 simp only at*
 subst hkk
 subst hv0
 have hbk:Blk (w.alloc (.cells #[.int .i64 5,.int .i64 xn,.string xnm,.string xt,.slice xA xm xc] 32)) w.heap.size 32 #[.int .i64 5,.int .i64 xn,.string xnm,.string xt,.slice xA xm xc]:=Blk.new_ _ _ _
 have hbA:Below w.heap.size w (w.alloc (.cells #[.int .i64 5,.int .i64 xn,.string xnm,.string xt,.slice xA xm xc] 32)):=(AI _ _).alloc (AD _) _
 have HBK:=AA hbk
 have HBA:=AA hbA
 clear hbk hbA
 obtain⟨wA,hwA⟩:∃wA,wA=w.alloc (.cells #[.int .i64 5,.int .i64 xn,.string xnm,.string xt,.slice xA xm xc] 32):=⟨_,rfl⟩
 rw[←hwA] at HBK HBA
 have HWA:=AA hwA
 clear hwA
 go_enter Tryz.func8,Tryz.ntmps8
 go_wp2_with fail
 rw[←HWA.out]
 have q0:=HBK.out.cell0
 have q1:=HBK.out.cell 1
 have q2:=HBK.out.cell 2
 have q3:=HBK.out.cell 3
 have q4:=HBK.out.cell 4
 go_wp2_with fail
 refine(HNM.out _).mono ?_
 rintro e w1 ⟨rfl,hb1⟩
 have HB1:=AA (HBA.out.trans (hb1.mono HBA.out.size))
 have HBK1:=AA (HBK.out.below' hb1)
 clear q0 q1 q2 q3 q4 hb1 HBK HBA
 have q0:=HBK1.out.cell0
 have kb:=(HB1.out.cell (p:=⟨gh,0,none⟩) hgh).trans hcb
 go_wp2_with fail
 refine(HID.out w1 w.heap.size HB1.out HBK1.out.lt (HBK1.out.cell 2)).mono ?_
 rintro e w2 ⟨rfl,hb2⟩
 have HB2:=AA (HB1.out.trans (hb2.mono HB1.out.size))
 have HBK2:=AA (HBK1.out.below' hb2)
 have hpre:=HPS.out.below HB2.out
 have HS2:=AA hpre
 clear q0 kb hb2 HB1 HBK1 HID HNM hpre
 have q0:=HBK2.out.cell0
 have q1:=HBK2.out.cell 1
 have q2:=HBK2.out.cell 2
 have q3:=HBK2.out.cell 3
 have q4:=HBK2.out.cell 4
 have kb:=(HB2.out.cell (p:=⟨gh,0,none⟩) hgh).trans hcb
 obtain⟨A1,c1',hv1,_,_,hrd2⟩:=HS2.out.row.form
 cases hv1
 obtain⟨ad,rfl,_,p0,p1,p2⟩:=A2Y hrd2 hil rfl
 have hm:=Ac hil
 have hpl:(ad.add (i*3)).block<w2.heap.size:=by rw[A0z];exact(HS2.out.row.lt _ rfl).2
 have hpo:¬foot ps[i] (ad.add (i*3)).block:=by rw[A0z];exact HS2.out.offRow hm rfl
 have HPG:=AA (HS2.out.pg _ hm)
 have hb2:base≤w2.heap.size:=AQ hb HB2.out.size
 have HFIN:Hid (∀w' p' w3 s',PgTo3 w2 w3 base ps[i] s' p'→s'.nm=ps[i].s.nm→Ends (ad.add (i*3)) ps[i] p' w3 w'→HsTo w w' base gh (.slice (some ad) ps.length c0') ps ((ps.map Pc.s).set i s')):=fun w' p' w3 s' h1 h2 h3=>(HsTo.ofPage HS2.out hil h1 h2 h3).pre HB2.out
 have hfr:w2.frozen? (A1x (ad.add (i*3)))=false:=by
  exact C0S
 have HRE:Hid (∀W,Chg w2 W (foot ps[i])→Rd W W.heap.size 3 xA xm (A0f xl)):=fun W hc=>A3E HB2.out hc (fun k hk=> .inr (.inr ⟨ps[i],hm,hk⟩)) HX.out.o HX.out.r
 have HTB2:=AA (HTB.out w2 HB2.out)
 have hxm:=HX.out.m
 clear hrd2 hm HTB
 go_wp2_with fail
 refine(B4p ps[i].gf ps[i].gl ps[i].s.tx ps[i].s.d ps[i].s.sf w2 HPG.out.lf).mono ?_
 rintro e w3 ⟨rfl,hL3,hg3⟩
 have HTO:Hid (HsTo w w3 base gh (.slice (some ad) ps.length c0') ps ((ps.map Pc.s).set i (svP ps[i].s))):=
  HFIN.out w3 ⟨svP ps[i].s,ps[i].ge,ps[i].gf,ps[i].gl,ps[i].vB,ps[i].vO⟩ w3 _ ⟨⟨HPG.out.ed.leafed HPG.out.lf hg3,hL3,HPG.out.bf,HPG.out.bl⟩,Gbs.foot hg3,fun _ hk=> .inl hk,rfl,rfl⟩ rfl (.inl ⟨rfl,rfl⟩)
 clear hL3 hg3
 exact C0P
theorem houDo6(x:Dd)(base gh:Nat)(v:Value)(ps:List Pc)(i:Nat)(w:World)(hf:Found w base gh v ps x i)(hkk:x.kind=6):Calls Tryz.prog 8 #[.pointer (some ⟨gh,0,none⟩),x.val] w (A0Z w base gh v ps x):=by
 have hil:i<ps.length:=hf.l
 obtain⟨hq1,hq2,hq3⟩:=A3p (ps:=ps) (x:=x) EE EE EE EE hf.n hf.e hil
 rw[(pg6 hkk).1] at hq1
 rw[(pg6 hkk).2] at hq3
 obtain⟨h,hk,hb,hx,ht,hn,hi,_⟩:=hf
 have HTB:Hid (∀W,Below w.heap.size w W→TabI W):=fun W hW=>A0c ht hW
 have hz:idxZ x.name (ps.map Pc.s)=(i:Int):=by rw[A2b (by rw[hi,AW];exact hil),hi]
 have HOKP:Hid (PsOk ps[i].s):=hk.pg _ (Bm (Ac hil))
 have HPS:=AA h
 have hnl:ps.length≤6:=by have:=hk.n;rwa[AW] at this
 obtain⟨A0,c0',hv0,_,_,hrd0⟩:=h.row.form
 have hcb:=h.blk.cell0
 have hgh:=h.blk.lt
 have HNM:=AA (fun W=>A1y x.name W hx.nm)
 rw[hn] at HNM
 have HID:=AA (fun W g (hW:Below w.heap.size w W) (hg:g<W.heap.size) (hc:W.cell? ⟨g,2,none⟩=some (.string x.name))=>A2i ps x.name A0 ps.length c0' w.heap.size g W (hrd0.below hW) hW.size EE rfl hg hc)
 unfold A0Z
 rw[hq1,hq2,hq3]
 clear hq1 hq2 hq3 hrd0
 have HX:=AA hx
 have HKK:=AA hk
 clear hn hx hk h
 rw[hz] at HID
 clear hz hi ht
 obtain⟨xk,xn,xnm,xt,xA,xm,xc,xl⟩:=x
 unfold Dd.val
 simp only at*
 subst hkk
 subst hv0
 have hbk:Blk (w.alloc (.cells #[.int .i64 6,.int .i64 xn,.string xnm,.string xt,.slice xA xm xc] 32)) w.heap.size 32 #[.int .i64 6,.int .i64 xn,.string xnm,.string xt,.slice xA xm xc]:=Blk.new_ _ _ _
 have hbA:Below w.heap.size w (w.alloc (.cells #[.int .i64 6,.int .i64 xn,.string xnm,.string xt,.slice xA xm xc] 32)):=(AI _ _).alloc (AD _) _
 have HBK:=AA hbk
 have HBA:=AA hbA
 clear hbk hbA
 obtain⟨wA,hwA⟩:∃wA,wA=w.alloc (.cells #[.int .i64 6,.int .i64 xn,.string xnm,.string xt,.slice xA xm xc] 32):=⟨_,rfl⟩
 rw[←hwA] at HBK HBA
 have HWA:=AA hwA
 clear hwA
 go_enter Tryz.func8,Tryz.ntmps8
 go_wp2_with fail
 rw[←HWA.out]
 have q0:=HBK.out.cell0
 have q1:=HBK.out.cell 1
 have q2:=HBK.out.cell 2
 have q3:=HBK.out.cell 3
 have q4:=HBK.out.cell 4
 go_wp2_with fail
 refine(HNM.out _).mono ?_
 rintro e w1 ⟨rfl,hb1⟩
 have HB1:=AA (HBA.out.trans (hb1.mono HBA.out.size))
 have HBK1:=AA (HBK.out.below' hb1)
 clear q0 q1 q2 q3 q4 hb1 HBK HBA
 have q0:=HBK1.out.cell0
 have kb:=(HB1.out.cell (p:=⟨gh,0,none⟩) hgh).trans hcb
 go_wp2_with fail
 refine(HID.out w1 w.heap.size HB1.out HBK1.out.lt (HBK1.out.cell 2)).mono ?_
 rintro e w2 ⟨rfl,hb2⟩
 have HB2:=AA (HB1.out.trans (hb2.mono HB1.out.size))
 have HBK2:=AA (HBK1.out.below' hb2)
 have hpre:=HPS.out.below HB2.out
 have HS2:=AA hpre
 clear q0 kb hb2 HB1 HBK1 HID HNM hpre
 have q0:=HBK2.out.cell0
 have q1:=HBK2.out.cell 1
 have q2:=HBK2.out.cell 2
 have q3:=HBK2.out.cell 3
 have q4:=HBK2.out.cell 4
 have kb:=(HB2.out.cell (p:=⟨gh,0,none⟩) hgh).trans hcb
 obtain⟨A1,c1',hv1,_,_,hrd2⟩:=HS2.out.row.form
 cases hv1
 obtain⟨ad,rfl,_,p0,p1,p2⟩:=A2Y hrd2 hil rfl
 have hm:=Ac hil
 have hpl:(ad.add (i*3)).block<w2.heap.size:=by rw[A0z];exact(HS2.out.row.lt _ rfl).2
 have hpo:¬foot ps[i] (ad.add (i*3)).block:=by rw[A0z];exact HS2.out.offRow hm rfl
 have HPG:=AA (HS2.out.pg _ hm)
 have hb2:base≤w2.heap.size:=AQ hb HB2.out.size
 have HFIN:Hid (∀w' p' w3 s',PgTo3 w2 w3 base ps[i] s' p'→s'.nm=ps[i].s.nm→Ends (ad.add (i*3)) ps[i] p' w3 w'→HsTo w w' base gh (.slice (some ad) ps.length c0') ps ((ps.map Pc.s).set i s')):=fun w' p' w3 s' h1 h2 h3=>(HsTo.ofPage HS2.out hil h1 h2 h3).pre HB2.out
 have hfr:w2.frozen? (A1x (ad.add (i*3)))=false:=by
  exact C0S
 have HRE:Hid (∀W,Chg w2 W (foot ps[i])→Rd W W.heap.size 3 xA xm (A0f xl)):=fun W hc=>A3E HB2.out hc (fun k hk=> .inr (.inr ⟨ps[i],hm,hk⟩)) HX.out.o HX.out.r
 have HTB2:=AA (HTB.out w2 HB2.out)
 have hxm:=HX.out.m
 clear hrd2 hm HTB
 go_wp2_with fail
 refine(B4F ps[i] (ad.add (i*3)) base xn w2 HPG.out HOKP.out hb2 hpl hpo hfr p1 p2).mono ?_
 rintro e w3 ⟨rfl,p',w4,hto,hen⟩
 have HTO:=AA (HFIN.out w3 p' w4 _ hto (paP_nm _ _) hen)
 clear hto hen
 exact C0P
theorem houDo7(x:Dd)(base gh:Nat)(v:Value)(ps:List Pc)(i:Nat)(w:World)(hf:Found w base gh v ps x i)(hkk:x.kind=7):Calls Tryz.prog 8 #[.pointer (some ⟨gh,0,none⟩),x.val] w (A0Z w base gh v ps x):=by
 have hil:i<ps.length:=hf.l
 obtain⟨hq1,hq2,hq3⟩:=A3p (ps:=ps) (x:=x) EE EE EE EE hf.n hf.e hil
 rw[(pg7 hkk).1] at hq1
 rw[(pg7 hkk).2] at hq3
 obtain⟨h,hk,hb,hx,ht,hn,hi,_⟩:=hf
 have HTB:Hid (∀W,Below w.heap.size w W→TabI W):=fun W hW=>A0c ht hW
 have hz:idxZ x.name (ps.map Pc.s)=(i:Int):=by rw[A2b (by rw[hi,AW];exact hil),hi]
 have HOKP:Hid (PsOk ps[i].s):=hk.pg _ (Bm (Ac hil))
 have HPS:=AA h
 have hnl:ps.length≤6:=by have:=hk.n;rwa[AW] at this
 obtain⟨A0,c0',hv0,_,_,hrd0⟩:=h.row.form
 have hcb:=h.blk.cell0
 have hgh:=h.blk.lt
 have HNM:=AA (fun W=>A1y x.name W hx.nm)
 rw[hn] at HNM
 have HID:=AA (fun W g (hW:Below w.heap.size w W) (hg:g<W.heap.size) (hc:W.cell? ⟨g,2,none⟩=some (.string x.name))=>A2i ps x.name A0 ps.length c0' w.heap.size g W (hrd0.below hW) hW.size EE rfl hg hc)
 unfold A0Z
 rw[hq1,hq2,hq3]
 clear hq1 hq2 hq3 hrd0
 have HX:=AA hx
 have HKK:=AA hk
 clear hn hx hk h
 rw[hz] at HID
 clear hz hi ht
 obtain⟨xk,xn,xnm,xt,xA,xm,xc,xl⟩:=x
 unfold Dd.val
 simp only at*
 subst hkk
 subst hv0
 have hbk:Blk (w.alloc (.cells #[.int .i64 7,.int .i64 xn,.string xnm,.string xt,.slice xA xm xc] 32)) w.heap.size 32 #[.int .i64 7,.int .i64 xn,.string xnm,.string xt,.slice xA xm xc]:=Blk.new_ _ _ _
 have hbA:Below w.heap.size w (w.alloc (.cells #[.int .i64 7,.int .i64 xn,.string xnm,.string xt,.slice xA xm xc] 32)):=(AI _ _).alloc (AD _) _
 have HBK:=AA hbk
 have HBA:=AA hbA
 clear hbk hbA
 obtain⟨wA,hwA⟩:∃wA,wA=w.alloc (.cells #[.int .i64 7,.int .i64 xn,.string xnm,.string xt,.slice xA xm xc] 32):=⟨_,rfl⟩
 rw[←hwA] at HBK HBA
 have HWA:=AA hwA
 clear hwA
 go_enter Tryz.func8,Tryz.ntmps8
 go_wp2_with fail
 rw[←HWA.out]
 have q0:=HBK.out.cell0
 have q1:=HBK.out.cell 1
 have q2:=HBK.out.cell 2
 have q3:=HBK.out.cell 3
 have q4:=HBK.out.cell 4
 go_wp2_with fail
 refine(HNM.out _).mono ?_
 rintro e w1 ⟨rfl,hb1⟩
 have HB1:=AA (HBA.out.trans (hb1.mono HBA.out.size))
 have HBK1:=AA (HBK.out.below' hb1)
 clear q0 q1 q2 q3 q4 hb1 HBK HBA
 have q0:=HBK1.out.cell0
 have kb:=(HB1.out.cell (p:=⟨gh,0,none⟩) hgh).trans hcb
 go_wp2_with fail
 refine(HID.out w1 w.heap.size HB1.out HBK1.out.lt (HBK1.out.cell 2)).mono ?_
 rintro e w2 ⟨rfl,hb2⟩
 have HB2:=AA (HB1.out.trans (hb2.mono HB1.out.size))
 have HBK2:=AA (HBK1.out.below' hb2)
 have hpre:=HPS.out.below HB2.out
 have HS2:=AA hpre
 clear q0 kb hb2 HB1 HBK1 HID HNM hpre
 have q0:=HBK2.out.cell0
 have q1:=HBK2.out.cell 1
 have q2:=HBK2.out.cell 2
 have q3:=HBK2.out.cell 3
 have q4:=HBK2.out.cell 4
 have kb:=(HB2.out.cell (p:=⟨gh,0,none⟩) hgh).trans hcb
 obtain⟨A1,c1',hv1,_,_,hrd2⟩:=HS2.out.row.form
 cases hv1
 obtain⟨ad,rfl,_,p0,p1,p2⟩:=A2Y hrd2 hil rfl
 have hm:=Ac hil
 have hpl:(ad.add (i*3)).block<w2.heap.size:=by rw[A0z];exact(HS2.out.row.lt _ rfl).2
 have hpo:¬foot ps[i] (ad.add (i*3)).block:=by rw[A0z];exact HS2.out.offRow hm rfl
 have HPG:=AA (HS2.out.pg _ hm)
 have hb2:base≤w2.heap.size:=AQ hb HB2.out.size
 have HFIN:Hid (∀w' p' w3 s',PgTo3 w2 w3 base ps[i] s' p'→s'.nm=ps[i].s.nm→Ends (ad.add (i*3)) ps[i] p' w3 w'→HsTo w w' base gh (.slice (some ad) ps.length c0') ps ((ps.map Pc.s).set i s')):=fun w' p' w3 s' h1 h2 h3=>(HsTo.ofPage HS2.out hil h1 h2 h3).pre HB2.out
 have hfr:w2.frozen? (A1x (ad.add (i*3)))=false:=by
  exact C0S
 have HRE:Hid (∀W,Chg w2 W (foot ps[i])→Rd W W.heap.size 3 xA xm (A0f xl)):=fun W hc=>A3E HB2.out hc (fun k hk=> .inr (.inr ⟨ps[i],hm,hk⟩)) HX.out.o HX.out.r
 have HTB2:=AA (HTB.out w2 HB2.out)
 have hxm:=HX.out.m
 clear hrd2 hm HTB
 go_wp2_with fail
 have HCR:=AA (fun W (hL:LeafAt W ps[i].gf ps[i].gl ps[i].s.tx ps[i].s.d ps[i].s.sf)=>B2Z ps[i].gf ps[i].gl ps[i].s.tx ps[i].s.d ps[i].s.sf xn W hL HOKP.out.lf)
 obtain⟨F1,HF1,hcell10,hcell11⟩:=cells2 ⟨(ad.add (i*3)).block,(ad.add (i*3)).off+2,none⟩ (.pointer (some ⟨ps[i].gf,0,none⟩)) ⟨w.heap.size,1,none⟩ (.int .i64 xn)
 refine EB [(0,true),(1,true),(2,true),(3,true),(4,true),(5,true),(6,false),(7,true)] HF1 ?_
 intro hne1
 simp only[A0i,AT,AP,AR]
 repeat(first|((first|refine Dt ?_|refine Du ?_);intro K hK;go_big_quiet_op;go_big_quiet_on)|((first|refine Dv ?_|refine Dw ?_);simp only[Act.put,AB,AE,AF]))
 refine A0a ?_
 go_wp2_with fail
 have hbd:Below w2.heap.size w2 w2.drew:=Bl (AI _ _)
 refine(HCR.out _ (HPG.out.lf.below hbd)).mono ?_
 rintro e w3 ⟨rfl,hL3,hg3⟩
 have hC3:Chg w2 w3 (foot ps[i]):=(Chg.ofB hbd).thenK (Gbs.foot hg3)
 have hE3:=(HPG.out.ed.below hbd).leafed (HPG.out.lf.below hbd) hg3
 have hgo:¬foot ps[i] w.heap.size:=HPG.out.off HBK2.out.ty EF EF EF EF
 have r1:=hC3.at_ (q:=⟨(ad.add (i*3)).block,(ad.add (i*3)).off+1,none⟩) hpl hpo p1
 have r2:=hC3.at_ (q:=⟨(ad.add (i*3)).block,(ad.add (i*3)).off+2,none⟩) hpl hpo p2
 have rd:=hC3.at_ (q:=⟨w.heap.size,1,none⟩) HBK2.out.lt hgo q1
 have rf:w3.frozen? (A1x (ad.add (i*3)))=false:=(World.frozen?_of_block (w:=w2) (a:=A1x (ad.add (i*3))) (hC3.block _ hpl hpo)).trans hfr
 have hpl3:(ad.add (i*3)).block<w3.heap.size:=AO hpl hC3.size
 have HL3:=AA hL3
 have HC3:=AA hC3
 have HE3:=AA hE3
 clear hL3 hC3 hE3 hg3 hgo hfr
 go_wp2_with fail
 refine ED HF1 ?_ ⟨r2,rd⟩
 repeat(first|((first|refine Dt ?_|refine Du ?_);intro K hK;go_big_quiet_op;go_big_quiet_on)|((first|refine Dv ?_|refine Dw ?_);simp only[Act.put,AB,AE,AF]))
 refine A0g ?_
 clear HF1 hcell10 hcell11 hne1 q0 q1 q2 q3 q4 kb p0 p1 p2 rd
 by_cases hz:A0D ps[i].s.d ps[i].s.sf xn=0
 ·have HZ:=AA hz
  have HPP:Hid (crP ps[i].s xn=⟨ps[i].s.nm,cfLT ps[i].s.tx ps[i].s.d ps[i].s.sf xn,craD ps[i].s.d ps[i].s.sf xn,craF ps[i].s.d ps[i].s.sf xn,[],[]⟩):=by unfold Hid crP crPE;rw[if_pos hz]
  have HTZ:Hid ((cfLT ps[i].s.tx ps[i].s.d ps[i].s.sf xn).size≤200):=(HOKP.out.lf.crash' xn).text
  rw[HZ.out]
  clear hz HCR
  generalize cfLT ps[i].s.tx ps[i].s.d ps[i].s.sf xn=tx' at*
  generalize craD ps[i].s.d ps[i].s.sf xn=d' at*
  generalize craF ps[i].s.d ps[i].s.sf xn=sf' at*
  go_wp2_with fail
  refine(A8C ps[i].gf ps[i].gl tx' d' sf' w3 HL3.out).mono ?_
  rintro e w4 ⟨rfl,hb4⟩
  have r1':=(hb4.cell (p:=⟨(ad.add (i*3)).block,(ad.add (i*3)).off+1,none⟩) hpl3).trans r1
  have rf4:=(hb4.frozen (p:=A1x (ad.add (i*3))) hpl3).trans rf
  have hpl4:(ad.add (i*3)).block<w4.heap.size:=AO hpl3 hb4.size
  go_wp2_with fail
  refine(A5U tx' HTZ.out w4).mono ?_
  rintro e w5 ⟨rfl,hE5,hb5⟩
  have r1'':=(hb5.cell (p:=⟨(ad.add (i*3)).block,(ad.add (i*3)).off+1,none⟩) hpl4).trans r1'
  have rf5:w5.frozen? ⟨(ad.add (i*3)).block,(ad.add (i*3)).off+1,none⟩=false:=(hb5.frozen (p:=A1x (ad.add (i*3))) hpl4).trans rf4
  have hb35:=A0h hb4 hb5
  have hsz:w2.heap.size≤w4.heap.size:=AQ HC3.out.size hb4.size
  have HTO:Hid (HsTo w (w5.setCell ⟨(ad.add (i*3)).block,(ad.add (i*3)).off+1,none⟩ (.pointer (some ⟨w4.heap.size,0,none⟩))) base gh (.slice (some ad) ps.length c0') ps ((ps.map Pc.s).set i (crP ps[i].s xn))):=by
   refine HFIN.out _ ⟨crP ps[i].s xn,w4.heap.size,ps[i].gf,ps[i].gl,.slice none 0 0,.slice none 0 0⟩ w5 _ ⟨⟨?_, ?_,HPG.out.bf,HPG.out.bl⟩,HC3.out.thenH hb35, ?_,rfl,rfl⟩ (B6y _ _) (.inr rfl)
   ·show EdSt w5 base w4.heap.size (crP ps[i].s xn).es (.slice none 0 0) (.slice none 0 0)
    rw[HPP.out]
    exact hE5.lowerH (AQ hb2 hsz)
   ·show LeafAt w5 ps[i].gf ps[i].gl (crP ps[i].s xn).tx (crP ps[i].s xn).d (crP ps[i].s xn).sf
    rw[HPP.out]
    exact HL3.out.below hb35
   ·rintro k ((rfl|hk|hk)|rfl|rfl)
    ·exact .inr hsz
    ·simp[Value.ownBlock] at hk
    ·simp[Value.ownBlock] at hk
    ·exact .inl (.inr (.inl rfl))
    ·exact .inl (.inr (.inr rfl))
  clear hE5 hb4 hb5 hb35 r1 r2 r1'
  go_wp2_with fail
  (apply bodyPost_ret;(simp[results,Tryz.results8,go_sem];rfl);rfl)
  exact⟨by unfold crPE;rw[HZ.out],HTO.out⟩
 ·have g1:(A0D ps[i].s.d ps[i].s.sf xn !=0)=true:=by rw[Be];exact hz
  have HPP:Hid (crP ps[i].s xn=ps[i].s):=by unfold Hid crP crPE;rw[if_neg hz]
  have hsm:=A3W hz
  have hct:cfLT ps[i].s.tx ps[i].s.d ps[i].s.sf xn=ps[i].s.tx:=by unfold cfLT;rw[if_neg hz]
  rw[hsm.1,hsm.2,hct] at HL3
  have HTO:Hid (HsTo w w3 base gh (.slice (some ad) ps.length c0') ps ((ps.map Pc.s).set i (crP ps[i].s xn))):=
   HFIN.out w3 ps[i] w3 _ ⟨⟨HE3.out,HL3.out,HPG.out.bf,HPG.out.bl⟩,HC3.out,fun _ hk=> .inl hk,HPP.out.symm,rfl⟩ (B6y _ _) (.inl ⟨rfl,rfl⟩)
  clear hsm hct hz HCR
  exact C0P
theorem houDo8(x:Dd)(base gh:Nat)(v:Value)(ps:List Pc)(i:Nat)(w:World)(hf:Found w base gh v ps x i)(hkk:x.kind=8):Calls Tryz.prog 8 #[.pointer (some ⟨gh,0,none⟩),x.val] w (A0Z w base gh v ps x):=by
 have hil:i<ps.length:=hf.l
 have hl9:fnd x.name (ps.map Pc.s)<(ps.map Pc.s).length:=by rw[hf.e,AW];exact hil
 obtain⟨hq1,hq2',hq3⟩:=B3Q (P:=ps.map Pc.s) hkk hf.n hl9
 have hq2:hsT (ps.map Pc.s) x=ps[i].s.tx:=by
  rw[hq2',Bf]
  have he:=hf.e
  subst he
  rfl
 clear hq2' hl9
 obtain⟨h,hk,hb,hx,ht,hn,hi,_⟩:=hf
 have HTB:Hid (∀W,Below w.heap.size w W→TabI W):=fun W hW=>A0c ht hW
 have hz:idxZ x.name (ps.map Pc.s)=(i:Int):=by rw[A2b (by rw[hi,AW];exact hil),hi]
 have HOKP:Hid (PsOk ps[i].s):=hk.pg _ (Bm (Ac hil))
 have HPS:=AA h
 have hnl:ps.length≤6:=by have:=hk.n;rwa[AW] at this
 obtain⟨A0,c0',hv0,_,_,hrd0⟩:=h.row.form
 have hcb:=h.blk.cell0
 have hgh:=h.blk.lt
 have HNM:=AA (fun W=>A1y x.name W hx.nm)
 rw[hn] at HNM
 have HID:=AA (fun W g (hW:Below w.heap.size w W) (hg:g<W.heap.size) (hc:W.cell? ⟨g,2,none⟩=some (.string x.name))=>A2i ps x.name A0 ps.length c0' w.heap.size g W (hrd0.below hW) hW.size EE rfl hg hc)
 unfold A0Z
 rw[hq1,hq2,hq3]
 clear hq1 hq2 hq3 hrd0
 have HX:=AA hx
 have HKK:=AA hk
 clear hn hx hk h
 rw[hz] at HID
 clear hz hi ht
 obtain⟨xk,xn,xnm,xt,xA,xm,xc,xl⟩:=x
 unfold Dd.val
 simp only at*
 subst hkk
 subst hv0
 have hbk:Blk (w.alloc (.cells #[.int .i64 8,.int .i64 xn,.string xnm,.string xt,.slice xA xm xc] 32)) w.heap.size 32 #[.int .i64 8,.int .i64 xn,.string xnm,.string xt,.slice xA xm xc]:=Blk.new_ _ _ _
 have hbA:Below w.heap.size w (w.alloc (.cells #[.int .i64 8,.int .i64 xn,.string xnm,.string xt,.slice xA xm xc] 32)):=(AI _ _).alloc (AD _) _
 have HBK:=AA hbk
 have HBA:=AA hbA
 clear hbk hbA
 obtain⟨wA,hwA⟩:∃wA,wA=w.alloc (.cells #[.int .i64 8,.int .i64 xn,.string xnm,.string xt,.slice xA xm xc] 32):=⟨_,rfl⟩
 rw[←hwA] at HBK HBA
 have HWA:=AA hwA
 clear hwA
 go_enter Tryz.func8,Tryz.ntmps8
 go_wp2_with fail
 rw[←HWA.out]
 have q0:=HBK.out.cell0
 have q1:=HBK.out.cell 1
 have q2:=HBK.out.cell 2
 have q3:=HBK.out.cell 3
 have q4:=HBK.out.cell 4
 go_wp2_with fail
 refine(HNM.out _).mono ?_
 rintro e w1 ⟨rfl,hb1⟩
 have HB1:=AA (HBA.out.trans (hb1.mono HBA.out.size))
 have HBK1:=AA (HBK.out.below' hb1)
 clear q0 q1 q2 q3 q4 hb1 HBK HBA
 have q0:=HBK1.out.cell0
 have kb:=(HB1.out.cell (p:=⟨gh,0,none⟩) hgh).trans hcb
 go_wp2_with fail
 refine(HID.out w1 w.heap.size HB1.out HBK1.out.lt (HBK1.out.cell 2)).mono ?_
 rintro e w2 ⟨rfl,hb2⟩
 have HB2:=AA (HB1.out.trans (hb2.mono HB1.out.size))
 have HBK2:=AA (HBK1.out.below' hb2)
 have hpre:=HPS.out.below HB2.out
 have HS2:=AA hpre
 clear q0 kb hb2 HB1 HBK1 HID HNM hpre
 have q0:=HBK2.out.cell0
 have q1:=HBK2.out.cell 1
 have q2:=HBK2.out.cell 2
 have q3:=HBK2.out.cell 3
 have q4:=HBK2.out.cell 4
 have kb:=(HB2.out.cell (p:=⟨gh,0,none⟩) hgh).trans hcb
 obtain⟨A1,c1',hv1,_,_,hrd2⟩:=HS2.out.row.form
 cases hv1
 obtain⟨ad,rfl,_,p0,p1,p2⟩:=A2Y hrd2 hil rfl
 have hm:=Ac hil
 have hpl:(ad.add (i*3)).block<w2.heap.size:=by rw[A0z];exact(HS2.out.row.lt _ rfl).2
 have hpo:¬foot ps[i] (ad.add (i*3)).block:=by rw[A0z];exact HS2.out.offRow hm rfl
 have HPG:=AA (HS2.out.pg _ hm)
 have hb2:base≤w2.heap.size:=AQ hb HB2.out.size
 have HFIN:Hid (∀w' p' w3 s',PgTo3 w2 w3 base ps[i] s' p'→s'.nm=ps[i].s.nm→Ends (ad.add (i*3)) ps[i] p' w3 w'→HsTo w w' base gh (.slice (some ad) ps.length c0') ps ((ps.map Pc.s).set i s')):=fun w' p' w3 s' h1 h2 h3=>(HsTo.ofPage HS2.out hil h1 h2 h3).pre HB2.out
 have hfr:w2.frozen? (A1x (ad.add (i*3)))=false:=by
  exact C0S
 have HRE:Hid (∀W,Chg w2 W (foot ps[i])→Rd W W.heap.size 3 xA xm (A0f xl)):=fun W hc=>A3E HB2.out hc (fun k hk=> .inr (.inr ⟨ps[i],hm,hk⟩)) HX.out.o HX.out.r
 have HTB2:=AA (HTB.out w2 HB2.out)
 have hxm:=HX.out.m
 clear hrd2 hm HTB
 go_wp2_with fail
 have hTX:=A5d base ps[i].ge ps[i].s.es ps[i].vB ps[i].vO w2 HPG.out.ed
 rw[show S ps[i].s.es.text=ps[i].s.tx from rfl] at hTX
 refine hTX.mono ?_
 rintro e w3 ⟨rfl,hb3⟩
 have HTO:Hid (HsTo w w3 base gh (.slice (some ad) ps.length c0') ps (ps.map Pc.s)):=HsTo.pre HB2.out (HsTo.same HS2.out hb3)
 clear hTX
 exact C0P
theorem houDo9(x:Dd)(base gh:Nat)(v:Value)(ps:List Pc)(i:Nat)(w:World)(hf:Found w base gh v ps x i)(hkk:x.kind=9):Calls Tryz.prog 8 #[.pointer (some ⟨gh,0,none⟩),x.val] w (A0Z w base gh v ps x):=by
 have hil:i<ps.length:=hf.l
 have hl9:fnd x.name (ps.map Pc.s)<(ps.map Pc.s).length:=by rw[hf.e,AW];exact hil
 obtain⟨hq1,hq2,hq3⟩:=B3R (P:=ps.map Pc.s) hkk hf.n hl9
 rw[hf.e] at hq3
 clear hl9
 obtain⟨h,hk,hb,hx,ht,hn,hi,_⟩:=hf
 have HTB:Hid (∀W,Below w.heap.size w W→TabI W):=fun W hW=>A0c ht hW
 have hz:idxZ x.name (ps.map Pc.s)=(i:Int):=by rw[A2b (by rw[hi,AW];exact hil),hi]
 have HOKP:Hid (PsOk ps[i].s):=hk.pg _ (Bm (Ac hil))
 have HPS:=AA h
 have hnl:ps.length≤6:=by have:=hk.n;rwa[AW] at this
 obtain⟨A0,c0',hv0,_,_,hrd0⟩:=h.row.form
 have hcb:=h.blk.cell0
 have hgh:=h.blk.lt
 have HNM:=AA (fun W=>A1y x.name W hx.nm)
 rw[hn] at HNM
 have HID:=AA (fun W g (hW:Below w.heap.size w W) (hg:g<W.heap.size) (hc:W.cell? ⟨g,2,none⟩=some (.string x.name))=>A2i ps x.name A0 ps.length c0' w.heap.size g W (hrd0.below hW) hW.size EE rfl hg hc)
 unfold A0Z
 rw[hq1,hq2,hq3]
 clear hq1 hq2 hq3 hrd0
 have HX:=AA hx
 have HKK:=AA hk
 clear hn hx hk h
 rw[hz] at HID
 clear hz hi ht
 obtain⟨xk,xn,xnm,xt,xA,xm,xc,xl⟩:=x
 unfold Dd.val
 simp only at*
 subst hkk
 subst hv0
 have hbk:Blk (w.alloc (.cells #[.int .i64 9,.int .i64 xn,.string xnm,.string xt,.slice xA xm xc] 32)) w.heap.size 32 #[.int .i64 9,.int .i64 xn,.string xnm,.string xt,.slice xA xm xc]:=Blk.new_ _ _ _
 have hbA:Below w.heap.size w (w.alloc (.cells #[.int .i64 9,.int .i64 xn,.string xnm,.string xt,.slice xA xm xc] 32)):=(AI _ _).alloc (AD _) _
 have HBK:=AA hbk
 have HBA:=AA hbA
 clear hbk hbA
 obtain⟨wA,hwA⟩:∃wA,wA=w.alloc (.cells #[.int .i64 9,.int .i64 xn,.string xnm,.string xt,.slice xA xm xc] 32):=⟨_,rfl⟩
 rw[←hwA] at HBK HBA
 have HWA:=AA hwA
 clear hwA
 go_enter Tryz.func8,Tryz.ntmps8
 go_wp2_with fail
 rw[←HWA.out]
 have q0:=HBK.out.cell0
 have q1:=HBK.out.cell 1
 have q2:=HBK.out.cell 2
 have q3:=HBK.out.cell 3
 have q4:=HBK.out.cell 4
 go_wp2_with fail
 refine(HNM.out _).mono ?_
 rintro e w1 ⟨rfl,hb1⟩
 have HB1:=AA (HBA.out.trans (hb1.mono HBA.out.size))
 have HBK1:=AA (HBK.out.below' hb1)
 clear q0 q1 q2 q3 q4 hb1 HBK HBA
 have q0:=HBK1.out.cell0
 have kb:=(HB1.out.cell (p:=⟨gh,0,none⟩) hgh).trans hcb
 go_wp2_with fail
 refine(HID.out w1 w.heap.size HB1.out HBK1.out.lt (HBK1.out.cell 2)).mono ?_
 rintro e w2 ⟨rfl,hb2⟩
 have HB2:=AA (HB1.out.trans (hb2.mono HB1.out.size))
 have HBK2:=AA (HBK1.out.below' hb2)
 have hpre:=HPS.out.below HB2.out
 have HS2:=AA hpre
 clear q0 kb hb2 HB1 HBK1 HID HNM hpre
 have q0:=HBK2.out.cell0
 have q1:=HBK2.out.cell 1
 have q2:=HBK2.out.cell 2
 have q3:=HBK2.out.cell 3
 have q4:=HBK2.out.cell 4
 have kb:=(HB2.out.cell (p:=⟨gh,0,none⟩) hgh).trans hcb
 obtain⟨A1,c1',hv1,_,_,hrd2⟩:=HS2.out.row.form
 cases hv1
 obtain⟨ad,rfl,_,p0,p1,p2⟩:=A2Y hrd2 hil rfl
 have hm:=Ac hil
 have hpl:(ad.add (i*3)).block<w2.heap.size:=by rw[A0z];exact(HS2.out.row.lt _ rfl).2
 have hpo:¬foot ps[i] (ad.add (i*3)).block:=by rw[A0z];exact HS2.out.offRow hm rfl
 have HPG:=AA (HS2.out.pg _ hm)
 have hb2:base≤w2.heap.size:=AQ hb HB2.out.size
 have HFIN:Hid (∀w' p' w3 s',PgTo3 w2 w3 base ps[i] s' p'→s'.nm=ps[i].s.nm→Ends (ad.add (i*3)) ps[i] p' w3 w'→HsTo w w' base gh (.slice (some ad) ps.length c0') ps ((ps.map Pc.s).set i s')):=fun w' p' w3 s' h1 h2 h3=>(HsTo.ofPage HS2.out hil h1 h2 h3).pre HB2.out
 have hfr:w2.frozen? (A1x (ad.add (i*3)))=false:=by
  exact C0S
 have HRE:Hid (∀W,Chg w2 W (foot ps[i])→Rd W W.heap.size 3 xA xm (A0f xl)):=fun W hc=>A3E HB2.out hc (fun k hk=> .inr (.inr ⟨ps[i],hm,hk⟩)) HX.out.o HX.out.r
 have HTB2:=AA (HTB.out w2 HB2.out)
 have hxm:=HX.out.m
 clear hrd2 hm HTB
 go_wp2_with fail
 refine(delPc0 (A1j ps) (.slice (some ad) ps.length c0') ps.length i base w2 HS2.out.row hil EE (pc_one ps)).mono ?_
 rintro e w3 ⟨A3,c3,hv3,rfl,ho3,hg3⟩
 cases hv3
 have hne:some gh≠(Value.slice (some ad) ps.length c0').ownBlock:=fun e=>by
  rcases HS2.out.boxRow with h|h
  ·rw[h] at e;cases e
  ·exact h e.symm
 have hbx:=HS2.out.blk.grown hg3 hne
 have k3:w3.cell? ⟨gh,0,none⟩=some (.slice (some ad) ps.length c0'):=hbx.cell0
 have k3f:w3.frozen? ⟨gh,0,none⟩=false:=hbx.frozen 0
 have HTO:Hid (HsTo w (w3.setCell ⟨gh,0,none⟩ (.slice (some ad) (ps.length-1) c0')) base gh (.slice (some ad) ps.length c0') ps ((ps.map Pc.s).eraseIdx i)):=by
  refine HsTo.pre HB2.out ⟨⟨_,ps.eraseIdx i,HS2.out.cut hil ho3 hg3,A8T Pc.s ps i, ?_⟩, ?_⟩
  ·rintro k (rfl|hk|⟨q,hq,hk⟩)
   ·exact .inl (.inl rfl)
   ·exact .inl (.inr (.inl hk))
   ·exact .inl (.inr (.inr ⟨q,CU hq,hk⟩))
  ·exact(Chg.of_gb (K:=HK gh (.slice (some ad) ps.length c0') ps) hg3 fun k hk=> .inr (.inl hk)).trans (Chg.setH w3 ⟨gh,0,none⟩ _) fun k hk _=> .inl hk
 clear ho3 hg3 hne hbx
 exact C0P
theorem B8Z(x:Dd)(base gh:Nat)(v:Value)(ps:List Pc)(i:Nat)(w:World)(hf:Found w base gh v ps x i)(hkk:x.kind=10):Calls Tryz.prog 8 #[.pointer (some ⟨gh,0,none⟩),x.val] w (A0Z w base gh v ps x):=by
 have hil:i<ps.length:=hf.l
 obtain⟨hq1,hq2,hq3⟩:=A3p (ps:=ps) (x:=x) EE EE EE EE hf.n hf.e hil
 rw[(pg10 hkk).1] at hq1
 rw[(pg10 hkk).2] at hq3
 obtain⟨h,hk,hb,hx,ht,hn,hi,_⟩:=hf
 have HTB:Hid (∀W,Below w.heap.size w W→TabI W):=fun W hW=>A0c ht hW
 have hz:idxZ x.name (ps.map Pc.s)=(i:Int):=by rw[A2b (by rw[hi,AW];exact hil),hi]
 have HOKP:Hid (PsOk ps[i].s):=hk.pg _ (Bm (Ac hil))
 have HPS:=AA h
 have hnl:ps.length≤6:=by have:=hk.n;rwa[AW] at this
 obtain⟨A0,c0',hv0,_,_,hrd0⟩:=h.row.form
 have hcb:=h.blk.cell0
 have hgh:=h.blk.lt
 have HNM:=AA (fun W=>A1y x.name W hx.nm)
 rw[hn] at HNM
 have HID:=AA (fun W g (hW:Below w.heap.size w W) (hg:g<W.heap.size) (hc:W.cell? ⟨g,2,none⟩=some (.string x.name))=>A2i ps x.name A0 ps.length c0' w.heap.size g W (hrd0.below hW) hW.size EE rfl hg hc)
 unfold A0Z
 rw[hq1,hq2,hq3]
 clear hq1 hq2 hq3 hrd0
 have HX:=AA hx
 have HKK:=AA hk
 clear hn hx hk h
 rw[hz] at HID
 clear hz hi ht
 obtain⟨xk,xn,xnm,xt,xA,xm,xc,xl⟩:=x
 unfold Dd.val
 simp only at*
 subst hkk
 subst hv0
 have hbk:Blk (w.alloc (.cells #[.int .i64 10,.int .i64 xn,.string xnm,.string xt,.slice xA xm xc] 32)) w.heap.size 32 #[.int .i64 10,.int .i64 xn,.string xnm,.string xt,.slice xA xm xc]:=Blk.new_ _ _ _
 have hbA:Below w.heap.size w (w.alloc (.cells #[.int .i64 10,.int .i64 xn,.string xnm,.string xt,.slice xA xm xc] 32)):=(AI _ _).alloc (AD _) _
 have HBK:=AA hbk
 have HBA:=AA hbA
 clear hbk hbA
 obtain⟨wA,hwA⟩:∃wA,wA=w.alloc (.cells #[.int .i64 10,.int .i64 xn,.string xnm,.string xt,.slice xA xm xc] 32):=⟨_,rfl⟩
 rw[←hwA] at HBK HBA
 have HWA:=AA hwA
 clear hwA
 go_enter Tryz.func8,Tryz.ntmps8
 go_wp2_with fail
 rw[←HWA.out]
 have q0:=HBK.out.cell0
 have q1:=HBK.out.cell 1
 have q2:=HBK.out.cell 2
 have q3:=HBK.out.cell 3
 have q4:=HBK.out.cell 4
 go_wp2_with fail
 refine(HNM.out _).mono ?_
 rintro e w1 ⟨rfl,hb1⟩
 have HB1:=AA (HBA.out.trans (hb1.mono HBA.out.size))
 have HBK1:=AA (HBK.out.below' hb1)
 clear q0 q1 q2 q3 q4 hb1 HBK HBA
 have q0:=HBK1.out.cell0
 have kb:=(HB1.out.cell (p:=⟨gh,0,none⟩) hgh).trans hcb
 go_wp2_with fail
 refine(HID.out w1 w.heap.size HB1.out HBK1.out.lt (HBK1.out.cell 2)).mono ?_
 rintro e w2 ⟨rfl,hb2⟩
 have HB2:=AA (HB1.out.trans (hb2.mono HB1.out.size))
 have HBK2:=AA (HBK1.out.below' hb2)
 have hpre:=HPS.out.below HB2.out
 have HS2:=AA hpre
 clear q0 kb hb2 HB1 HBK1 HID HNM hpre
 have q0:=HBK2.out.cell0
 have q1:=HBK2.out.cell 1
 have q2:=HBK2.out.cell 2
 have q3:=HBK2.out.cell 3
 have q4:=HBK2.out.cell 4
 have kb:=(HB2.out.cell (p:=⟨gh,0,none⟩) hgh).trans hcb
 obtain⟨A1,c1',hv1,_,_,hrd2⟩:=HS2.out.row.form
 cases hv1
 obtain⟨ad,rfl,_,p0,p1,p2⟩:=A2Y hrd2 hil rfl
 have hm:=Ac hil
 have hpl:(ad.add (i*3)).block<w2.heap.size:=by rw[A0z];exact(HS2.out.row.lt _ rfl).2
 have hpo:¬foot ps[i] (ad.add (i*3)).block:=by rw[A0z];exact HS2.out.offRow hm rfl
 have HPG:=AA (HS2.out.pg _ hm)
 have hb2:base≤w2.heap.size:=AQ hb HB2.out.size
 have HFIN:Hid (∀w' p' w3 s',PgTo3 w2 w3 base ps[i] s' p'→s'.nm=ps[i].s.nm→Ends (ad.add (i*3)) ps[i] p' w3 w'→HsTo w w' base gh (.slice (some ad) ps.length c0') ps ((ps.map Pc.s).set i s')):=fun w' p' w3 s' h1 h2 h3=>(HsTo.ofPage HS2.out hil h1 h2 h3).pre HB2.out
 have hfr:w2.frozen? (A1x (ad.add (i*3)))=false:=by
  exact C0S
 have HRE:Hid (∀W,Chg w2 W (foot ps[i])→Rd W W.heap.size 3 xA xm (A0f xl)):=fun W hc=>A3E HB2.out hc (fun k hk=> .inr (.inr ⟨ps[i],hm,hk⟩)) HX.out.o HX.out.r
 have HTB2:=AA (HTB.out w2 HB2.out)
 have hxm:=HX.out.m
 clear hrd2 hm HTB
 go_wp2_with fail
 obtain⟨F1,HF1,hcell10,hcell11⟩:=cells2 ⟨(ad.add (i*3)).block,(ad.add (i*3)).off+1,none⟩ (.pointer (some ⟨ps[i].ge,0,none⟩)) ⟨w.heap.size,3,none⟩ (.string xt)
 refine EB [(0,true),(1,true),(2,true),(3,true),(5,true),(6,true),(4,false),(7,false),(8,true),(9,true),(10,true),(11,true),(12,true)] HF1 ?_
 intro hne1
 simp only[A0i,AT,AP,AR]
 repeat(first|((first|refine Dt ?_|refine Du ?_);intro K hK;go_big_quiet_op;go_big_quiet_on)|((first|refine Dv ?_|refine Dw ?_);simp only[Act.put,AB,AE,AF]))
 refine A0a ?_
 go_wp2_with fail
 have hbd:Below w2.heap.size w2 w2.drew:=Bl (AI _ _)
 have hTX:=A5d base ps[i].ge ps[i].s.es ps[i].vB ps[i].vO w2.drew (HPG.out.ed.below hbd)
 rw[show S ps[i].s.es.text=ps[i].s.tx from rfl] at hTX
 refine hTX.mono ?_
 rintro e w3 ⟨rfl,hb3⟩
 have hb23:=hbd.trans (hb3.mono hbd.size)
 have r1:=(hb23.cell (p:=⟨(ad.add (i*3)).block,(ad.add (i*3)).off+1,none⟩) hpl).trans p1
 have r2:=(hb23.cell (p:=⟨(ad.add (i*3)).block,(ad.add (i*3)).off+2,none⟩) hpl).trans p2
 have rd:=(hb23.cell (p:=⟨w.heap.size,3,none⟩) HBK2.out.lt).trans q3
 have hpl3:(ad.add (i*3)).block<w3.heap.size:=AO hpl hb23.size
 have hgd3:w.heap.size<w3.heap.size:=AO HBK2.out.lt hb23.size
 have HB23:=AA hb23
 clear hTX hb3 hb23 hbd q0 q1 q2 q3 q4 kb p0 p1 p2 hfr
 go_wp2_with fail
 refine ED HF1 ?_ ⟨r1,rd⟩
 repeat(first|((first|refine Dt ?_|refine Du ?_);intro K hK;go_big_quiet_op;go_big_quiet_on)|((first|refine Dv ?_|refine Dw ?_);simp only[Act.put,AB,AE,AF]))
 refine A0a ?_
 go_wp2_with fail
 refine(A9H ps[i].s.tx xt w3).mono ?_
 rintro e w4 ⟨v4,rfl,hv4,hb4⟩
 have r1':=(hb4.cell (p:=⟨(ad.add (i*3)).block,(ad.add (i*3)).off+1,none⟩) hpl3).trans r1
 have r2':=(hb4.cell (p:=⟨(ad.add (i*3)).block,(ad.add (i*3)).off+2,none⟩) hpl3).trans r2
 have rd':=(hb4.cell (p:=⟨w.heap.size,3,none⟩) hgd3).trans rd
 have hpl4:(ad.add (i*3)).block<w4.heap.size:=AO hpl3 hb4.size
 have hb24:Below w2.heap.size w2 w4:=HB23.out.trans (hb4.mono HB23.out.size)
 have HB24:=AA hb24
 have HS4:=AA (HS2.out.below hb24)
 have HV4:=AA hv4
 have hs23:=HB23.out.size
 clear hv4 hb4 hb24 r1 r2 rd
 go_wp2_with fail
 refine ED HF1 ?_ ⟨r1',rd'⟩
 repeat(first|((first|refine Dt ?_|refine Du ?_);intro K hK;go_big_quiet_op;go_big_quiet_on)|((first|refine Dv ?_|refine Dw ?_);simp only[Act.put,AB,AE,AF]))
 refine A0g ?_
 clear HF1 hcell10 hcell11 hne1 rd'
 have HB4:=AA (HB2.out.trans (HB24.out.mono HB2.out.size))
 by_cases hz:mkE ps[i].s.tx xt=0
 ·have hME:mkPE ps[i].s xt=edPE ps[i].s (mkL ps[i].s.tx xt):=by unfold mkPE;rw[if_pos hz]
  have hMP:mkP ps[i].s xt=edP ps[i].s (mkL ps[i].s.tx xt):=by unfold mkP;rw[if_pos hz]
  have ho4:=HV4.out hz
  obtain⟨A8,c8,rfl,hn8,hm8,hrd8⟩:=ho4.form
  have HPG4:=AA (HS4.out.pg _ (Ac hil))
  have HR8:Hid (∀W,Chg w4 W (foot ps[i])→Rd W W.heap.size 3 A8 (mkL ps[i].s.tx xt).length (A0f (mkL ps[i].s.tx xt))):=fun W hc=>by
   obtain⟨A9,c9,hv9,_,_,hr9⟩:=(ho4.chg hc fun k hk hk2=>by
    have h1:=(ho4.lt k hk).1
    have h2:=(HPG.out.lt hk2).2
    omega).form
   cases hv9
   exact hr9
  have hml:(mkL ps[i].s.tx xt).length≤9223372036854775807:=by unfold maxLen at hm8;omega
  have HML:=AA hml
  have HTB4:=AA (A0c HTB2.out HB24.out)
  have hb4':base≤w4.heap.size:=AQ hb2 HB24.out.size
  have HME:=AA hME
  have HMP:=AA hMP
  rw[hz]
  clear hME hMP ho4 hrd8 hz hml HV4
  generalize mkL ps[i].s.tx xt=l8 at*
  go_wp2_with fail
  refine(A8S ps[i] (ad.add (i*3)) base l8 A8 l8.length c8 w4 HPG4.out HOKP.out hb4' hpl4 hpo r1' r2' HR8.out HML.out HTB4.out).mono ?_
  rintro e w5 ⟨rfl,p',hto⟩
  have HTO:Hid (HsTo w w5 base gh (.slice (some ad) ps.length c0') ps ((ps.map Pc.s).set i (mkP ps[i].s xt))):=by
   rw[HMP.out]
   exact(HsTo.ofPage HS4.out hil hto.to3 (B6x _ _) (.inl ⟨rfl,hto.ge⟩)).pre HB4.out
  clear hto
  exact C1R
 ·have g1:(mkE ps[i].s.tx xt !=0)=true:=by rw[Be];exact hz
  have hME:mkPE ps[i].s xt=mkE ps[i].s.tx xt:=by unfold mkPE;rw[if_neg hz]
  have hMP:mkP ps[i].s xt=ps[i].s:=by unfold mkP;rw[if_neg hz]
  have HTO:Hid (HsTo w w4 base gh (.slice (some ad) ps.length c0') ps ((ps.map Pc.s).set i (mkP ps[i].s xt))):=by
   have e:(ps.map Pc.s).set i (mkP ps[i].s xt)=ps.map Pc.s:=by
    rw[hMP]
    have h9:=B6z (ps.map Pc.s) i (by rw[AW];exact hil)
    rwa[Bf] at h9
   rw[Hid,e]
   exact HsTo.pre HB4.out (HsTo.same HS4.out (AI _ _))
  have HME:=AA hME
  clear hME hMP hz HV4
  exact C1R
end Go.Proofs.YtplgghjdidmcfaaGreatDoor
