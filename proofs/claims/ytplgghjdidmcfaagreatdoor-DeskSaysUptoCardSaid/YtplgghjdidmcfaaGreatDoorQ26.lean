/- Written anew, smaller, by a program of our own out of our texts. No condition of our own. -/
import Derived.Test.YtplgghjdidmcfaaGreatDoorQ25
import Derived.Test.YtplgghjdidmcfaaGreatDoorQ20
import Derived.Test.YtplgghjdidmcfaaGreatDoorQ23
import Derived.Test.YtplgghjdidmcfaaGreatDoorQ24
import Derived.Test.YtplgghjdidmcfaaGreatDoorQ16
set_option maxRecDepth 100000
set_option maxHeartbeats 16000000
set_option linter.all false
namespace Go.Proofs.YtplgghjdidmcfaaGreatDoor
open Go.RowKit
theorem C0w{P:Prop}(h:P:=by
 rw[if_neg hl9]
 rw[hl2] at HLG⊢
 have HRF:=AA (fun W (hb:Below w.heap.size w W)=>A2f 2 EF EF ht hb)
 clear hl9 hl2 HK
 have hmm:=@run_makeMap Tryz.prog
 go_enter Tryz.func101,Tryz.ntmps101
 have hm:=MapSI.made w
 have hb5:Below w.heap.size w (w.alloc (.map #[] 0)):=Ds
 go_wp2_with (refine MapSI.insert hm (by unfold maxLen;omega) _ (by unfold maxLen;decide) _ EF rfl _ _ _ rfl rfl rfl rfl ?_;intro w1 hm1 hg1;have hb6:=hb5.grown hg1 hb5.size (fun k hk=>by cases hk;exact AD _);clear hm hb5 hg1;have hm:=hm1;have hb5:=hb6;clear hm1 hb6;(first|(have hlk:=(MapSI.ext hm (g:=fW) (fun t=>rfl)).look_ok X0 (by unfold maxLen;omega);rw[HLX.out,HFW.out] at hlk)|skip))
 clear hm
 go_wp2_with fail
 refine(HLG.out _ hb5).mono ?_
 rintro e w6 ⟨rfl,hb6⟩
 have hb6:=hb5.trans (hb6.mono hb5.size)
 clear HLG hb5
 go_wp2_with fail
 refine(HRF.out _ hb6).mono ?_
 rintro e w7 ⟨rfl,hb7⟩
 have hb8:=hb6.trans (hb7.mono hb6.size)
 go_wp2_with fail
 go_ret2
 exact⟨rfl,hb8⟩
 ):P:=h
theorem C0U{P:Prop}(h:P:=by
 generalize S x0=X0 at*
 have hmm:=@run_makeMap Tryz.prog
 go_enter Tryz.func101,Tryz.ntmps101
 have hm:=MapSI.made w
 have hb5:Below w.heap.size w (w.alloc (.map #[] 0)):=Ds
 go_wp2_with (refine MapSI.insert hm (by unfold maxLen;omega) _ (by unfold maxLen;decide) _ EF rfl _ _ _ rfl rfl rfl rfl ?_;intro w1 hm1 hg1;have hb6:=hb5.grown hg1 hb5.size (fun k hk=>by cases hk;exact AD _);clear hm hb5 hg1;have hm:=hm1;have hb5:=hb6;clear hm1 hb6;(first|(have hlk:=(MapSI.ext hm (g:=fW) (fun t=>rfl)).look_ok X0 (by unfold maxLen;omega);rw[HLX.out,HFW.out] at hlk)|skip))
 clear hm
 go_wp2_with fail
 go_ret2
 exact⟨rfl,hb5⟩
 ):P:=h
theorem C0Y{P:Prop}(h:P:=by
 rintro e w9 ⟨rfl,hb9⟩
 have hb10:=hb8.trans (hb9.mono hb8.size)
 have c0x:=(hb10.cell (p:=⟨b,o,none⟩) hbw).trans c0
 have c1x:=(hb10.cell (p:=⟨b,o+1,none⟩) hbw).trans c1
 go_wp2_with fail
 refine ED HF1 ?_ ⟨c0x,c1x⟩
 repeat(first|((first|refine Dt ?_|refine Du ?_);intro K hK;go_big_quiet_op;go_big_quiet_on)|((first|refine Dv ?_|refine Dw ?_);simp only[Act.put,AB,AE,AF]))
 refine A0g ?_
 clear HF1 c0' c1' c0'' c1'' c0x c1x
 go_wp2_with fail
 go_ret2
 exact⟨rfl,hb10⟩
 ):P:=h
theorem C1g{P:Prop}(h:P:=by
 unfold A1q at hl9⊢
 split
 ·rfl
 ·rename_i h;rw[if_neg h] at hl9;exact absurd rfl hl9
 ):P:=h
theorem C1E{P:Prop}(h:P:=by
 have:=congrArg (fun l=>(List.flatten l).length) (BC i (lynF x))
 simp only[List.flatten_append,AJ] at this
 omega
 ):P:=h
theorem C1X{P:Prop}(h:P:=by
 rintro e w9 ⟨rfl,hb9⟩
 have hb10:=hb8.trans (hb9.mono hb8.size)
 go_wp2_with fail
 go_ret2
 exact⟨rfl,hb10⟩
 ):P:=h
theorem C2e{P:Prop}(h:P:=by
 go_wp2_with fail
 refine wp_loop_rounds 1 ?_
 rw[rounds_succ]
 go_wp2_with fail
 go_end0
 exact⟨rfl,rfl⟩
 ):P:=h
theorem C2O{P:Prop}(h:P:=by
 have hl2:A1q [x]=2:=by
  exact C1g
 exact C0w
 ):P:=h
theorem B2B(A x C:List Tn)(ad:Addr)(c N base a b:Nat)(w:World)(h:RowT w base ad c N (A++(x++C)))(hN:N≤1000000)(ha:a=A.length)(hb:b=a+x.length)(hq:∀z∈x,QT z):
 Calls Tryz.prog 243 #[.slice (some ad) N c,.int .i64 (a:Int),.int .i64 (b:Int),.func (.func 195) #[] #[]] w fun e w'=>e= .returned (.tuple #[])∧RowT w' base ad c N (A++(A0m leT x++C))∧w.grownBy w' (some ad.block):=by
 have hlen:=h.len
 have hbN:b≤N:=by simp only[AJ] at hlen;omega
 have hab:a≤b:=EE
 have HQ:=AA hq
 have HH:=AA (And.intro ha hb)
 have HR0:Hid (RowT w base ad c N (A++(A0m leT (x.take 1)++(x.drop 1++C)))):=by
  have e:A0m leT (x.take 1)++(x.drop 1++C)=x++C:=by
   cases x with
   |nil=>rfl
   |cons y x=>show A0m leT [y]++(x++C)=_;rw[B0q];rfl
  rw[Hid,e];exact h
 clear h hlen ha hb hq
 go_enter Tryz.func243,Tryz.ntmps243
 go_wp2_with fail
 go_loopw [8] (fun iv wr=>∃t i:Nat,iv= .int .i64 (i:Int)∧Hid (i=a+t)∧a+1≤i∧(i≤b∨i=a+1)∧RowT wr base ad c N (A++(A0m leT (x.take t)++(x.drop t++C)))∧w.grownBy wr (some ad.block)) (fun iv _=>b+1-(intOf iv).toNat)
 case atStart=>exact⟨1,a+1,by go_num,rfl,AD _,.inr rfl,HR0.out,A0U _ _⟩
 case round=>
  clear HR0
  obtain⟨t,i,rfl,hit,hi1,hi2,hrow,hgb⟩:=hrel
  by_cases hlt:i<b
  ·have g1:decide ((i:Int)<(b:Int))=true:=AG EE
   have g1':decide (i<b)=true:=AG hlt
   obtain⟨h1,h2⟩:=HH.out
   have ht:t<x.length:=by have:=hit.out;omega
   have hsl:(A0m leT (x.take t)).length=t:=by rw[A1A,AV];omega
   have hd:x.drop t=x[t]::x.drop (t+1):=Ag ht
   have hnx:A0m leT (x.take (t+1))=(A0m leT (x.take t)).merge [x[t]] leT:=by
    rw[Aa ht,B4D tpT]
   have hst:=A4a tpT (x.take t)
   have hqs:∀z∈A0m leT (x.take t),QT z:=fun z hz=>HQ.out z (CI (A4K.1 hz))
   have hqx:QT x[t]:=HQ.out _ (Ac _)
   rw[hd] at hrow
   have HNX:=AA hnx
   have HST:=AA hst
   have HQS:=AA hqs
   have HQX:=AA hqx
   clear hnx hst hqs hqx hd
   generalize x[t]=e at*
   generalize hss:A0m leT (x.take t)=s at*
   clear hss
   have HSL:=AA hsl
   have hrow0:RowT wr base ad c N (A++(s.take t++(e::(s.drop t++(x.drop (t+1)++C))))):=by
    rw[AX (DS hsl),Au (DS hsl)];exact hrow
   generalize hC0:x.drop (t+1)++C=C0 at*
   have HC0:=AA hC0
   have HROW0:=AA hrow0
   have HHL:=AA (And.intro h1 h2)
   clear hrow hrow0 hC0 hsl h1 h2 ht
   go_wp2_with fail
   go_loopw [9] (fun jv w2=>∃r j:Nat,jv= .int .i64 (j:Int)∧Hid (j=a+r)∧a≤j∧j≤i∧RowT w2 base ad c N (A++(s.take r++(e::(s.drop r++C0))))∧Hid (∀z,s[r]? =some z→leT z e=false)∧w.grownBy w2 (some ad.block)) (fun jv _=>(intOf jv).toNat)
   case atStart=>exact⟨t,i,rfl,hit,by omega,AD _,HROW0.out,(fun z hz=>by rw[List.getElem?_eq_none (by rw[HSL.out];exact AD _)] at hz;cases hz),hgb⟩
   case round=>
    clear HROW0 hgb
    obtain⟨r,j,rfl,hjr,haj,hji,hrow,HB,hgb⟩:=hrel
    rcases Cs haj with hj0|hj0
    ·have g2:decide ((a:Int)<(j:Int))=false:=AC EE
     have g2':decide (a<j)=false:=AC EE
     have hr0:r=0:=by have:=hjr.out;omega
     subst hr0
     have HF:Hid (A++(s.take 0++(e::(s.drop 0++C0)))=A++(A0m leT (x.take (t+1))++(x.drop (t+1)++C))):=by
      have h9:=A5W tpT (y:=e) (u1:=s.take 0) (u2:=s.drop 0) (by rw[BC];exact HST.out) (fun z hz=>by rw[Bs] at hz;cases hz) (fun z hz=>by rw[DP] at hz;exact HB.out z hz)
      rw[BC] at h9
      rw[Hid,HNX.out,h9,HC0.out]
      simp only[AN,Aj]
     rw[HF.out] at hrow
     have HR9:=AA hrow
     clear hrow hj0 HF
     go_wp2_with fail
     go_quiet (fail)
     go_wp2_with fail
     go_roundw
     case rel=>exact⟨t+1,i+1,by go_num,by have:=hit.out;unfold Hid;omega,by omega,.inl EE,HR9.out.drewN _,B7A hgb _⟩
     case measure=>simp[intOf];omega
    ·obtain⟨κ,rfl⟩:∃κ,j=κ+1:=⟨j-1,by omega⟩
     obtain⟨r,rfl⟩:∃q,r=q+1:=⟨r-1,by have:=hjr.out;omega⟩
     have g2:decide ((a:Int)<(κ:Int)+1)=true:=AG EE
     have g2':decide (a<κ+1)=true:=AG EE
     have g2'':decide ((a:Int)<((κ+1:Nat):Int))=true:=AG EE
     have hk1:κ<N:=EE
     have hk3:κ+1<N:=EE
     have hr:r<s.length:=by rw[HSL.out];have:=hjr.out;have:=hit.out;omega
     have hd:s.drop r=s[r]::s.drop (r+1):=Ag hr
     have hlist:A++(s.take (r+1)++(e::(s.drop (r+1)++C0)))=(A++s.take r)++s[r]::([]++e::(s.drop (r+1)++C0)):=by rw[Aa hr];simp only[AN,Aj,Am]
     have hlist2:A++(s.take r++(e::(s.drop r++C0)))=(A++s.take r)++e::([]++s[r]::(s.drop (r+1)++C0)):=by rw[hd];simp only[AN,Aj,Am]
     have hA9:κ=(A++s.take r).length:=by simp only[AJ,AV];have:=hjr.out;have:=HHL.out;omega
     have hB9:κ+1=(A++s.take r).length+1+([]:List Tn).length:=by rw[←hA9];rfl
     have HLI:=AA hlist2
     have hz:=HQS.out _ (Ac hr)
     have HZ:Hid (s[r]? =some s[r]):=AL hr
     have HSTOP:Hid (cvT e s[r]<0∨A++(s.take (r+1)++(e::(s.drop (r+1)++C0)))=A++(A0m leT (x.take (t+1))++(x.drop (t+1)++C))):=by
      by_cases hc:cvT e s[r]<0
      ·exact .inl hc
      ·right
       have h9:=A5W tpT (y:=e) (u1:=s.take (r+1)) (u2:=s.drop (r+1)) (by rw[BC];exact HST.out) (fun z hz=>by
        rw[Aa hr,List.getLast?_append] at hz
        simp only[List.getLast?_singleton,Option.some_or,Option.some.injEq] at hz
        rw[←hz];exact A4b.2 hc) (fun z hz=>by rw[DP] at hz;exact HB.out z hz)
       rw[BC] at h9
       rw[HNX.out,h9,HC0.out]
       simp only[AN,Aj]
     rw[Hid,hlist] at HSTOP
     have HSTOP:=AA HSTOP
     rw[hlist] at hrow
     clear hlist hlist2 hd
     generalize s[r]=z at*
     generalize A++s.take r=A9 at*
     generalize([]:List Tn)=B9 at*
     generalize hC9:s.drop (r+1)++C0=C9 at*
     have HC9:=AA hC9
     clear hr hC9
     obtain⟨hxi,hyj,_,_⟩:=A5w A9 B9 C9 z e hA9 hB9
     obtain⟨ci0,ci1⟩:=A1R hrow hyj
     have ci0r:=BW ci0
     have ci1r:=BW ci1
     obtain⟨cj0,cj1⟩:=A1R hrow hxi
     have cj0r:=BW cj0
     have cj1r:=BW cj1
     have HC:=AA (A6A e z HQX.out hz)
     have HR:=AA hrow
     have HAB:=AA (And.intro hA9 hB9)
     clear hrow hxi hyj hz hA9 hB9
     by_cases hc:cvT e z<0
     ·have g3:decide (cvT e z<0)=true:=AG hc
      have HN:Hid (∀z',s[r]? =some z'→leT z' e=false):=fun z' hz'=>by
       have h8:=HZ.out
       rw[h8] at hz'
       cases hz'
       exact A7H.2 hc
      go_wp2_with fail
      refine wp_region_quiet_below EG EG ?_
      repeat(go_big_quiet_step ((go_at_call 195;exact BS (HC.out _))))
      refine wpQuiet_nil ?_
      intro wr hb50
      have hb5:=A0B hb50
      clear hb50
      have hrow:=HR.out.below hb5
      have hgb:=A2N hgb hb5
      obtain⟨hA9,hB9⟩:=HAB.out
      clear ci0 ci0r cj0 cj0r
      clear ci1 ci1r cj1 cj1r
      clear HSTOP HR HAB HC hb5 g3 hc HQS HB HZ
      obtain⟨hxi,hyj,hsw,hsw2⟩:=A5w A9 B9 C9 z e hA9 hB9
      have HROW:=AA hrow
      have HOWN:=AA hrow.own
      obtain⟨ci0,ci1⟩:=A1R HROW.out hyj
      obtain⟨cj0,cj1⟩:=A1R HROW.out hxi
      have hlen:=hrow.len
      have hset:=A2K (l:=A9++z::(B9++e::C9)) (j:=(κ+1)) EE z
      have hset2:=A2K (l:=(A9++z::(B9++e::C9)).set (κ+1) z) (j:=κ) (by rw[Bj];omega) e
      rw[←hset,hsw2] at hset2
      have HSET:=AA hset2
      clear hA9 hB9 hsw hsw2 hrow hxi hyj hset hset2 hlen
      obtain⟨s0,f0⟩:=A0l HOWN.out (j:=(κ+1)*2) EE (.string (S z.text))
      obtain⟨s1,f1⟩:=A0l s0 (j:=(κ+1)*2+1) EE (.int .i64 z.at_)
      obtain⟨s2,f2⟩:=A0l s1 (j:=κ*2) EE (.string (S e.text))
      obtain⟨s3,f3⟩:=A0l s2 (j:=κ*2+1) EE (.int .i64 e.at_)
      have fi0:=(A0l HOWN.out (j:=(κ+1)*2) EE (.int .i64 0)).2
      have fj0:=(A0l HOWN.out (j:=κ*2) EE (.int .i64 0)).2
      have fi1:=(A0l HOWN.out (j:=(κ+1)*2+1) EE (.int .i64 0)).2
      have fj1:=(A0l HOWN.out (j:=κ*2+1) EE (.int .i64 0)).2
      rw[A0k] at fi1
      rw[A0k] at fj1
      rw[A0k ad ((κ+1)*2),A0k ad (κ*2)] at s3
      have hna:=A5L HOWN.out
      have mi1:(wr.setCell (ad.add ((κ+1)*2)) (.string (S z.text))).cell? ⟨(ad.add ((κ+1)*2)).block,(ad.add ((κ+1)*2)).off+1,none⟩=some (.int .i64 e.at_):=((AY _ _ _ _ (show((ad.add ((κ+1)*2)):Addr)≠(⟨(ad.add ((κ+1)*2)).block,(ad.add ((κ+1)*2)).off+1,none⟩:Addr) by rw[←A0k ad ((κ+1)*2)];exact hna _ _ EE)).trans ci1)
      have pj0:((wr.setCell (ad.add ((κ+1)*2)) (.string (S z.text))).setCell ⟨(ad.add ((κ+1)*2)).block,(ad.add ((κ+1)*2)).off+1,none⟩ (.int .i64 z.at_)).cell? (ad.add (κ*2))=some (.string (S z.text)):=((AY _ _ _ _ (show(⟨(ad.add ((κ+1)*2)).block,(ad.add ((κ+1)*2)).off+1,none⟩:Addr)≠((ad.add (κ*2)):Addr) by rw[←A0k ad ((κ+1)*2)];exact hna _ _ EE)).trans ((AY _ _ _ _ (show((ad.add ((κ+1)*2)):Addr)≠((ad.add (κ*2)):Addr) by exact hna _ _ EE)).trans cj0))
      have pj1:((wr.setCell (ad.add ((κ+1)*2)) (.string (S z.text))).setCell ⟨(ad.add ((κ+1)*2)).block,(ad.add ((κ+1)*2)).off+1,none⟩ (.int .i64 z.at_)).cell? ⟨(ad.add (κ*2)).block,(ad.add (κ*2)).off+1,none⟩=some (.int .i64 z.at_):=((AY _ _ _ _ (show(⟨(ad.add ((κ+1)*2)).block,(ad.add ((κ+1)*2)).off+1,none⟩:Addr)≠(⟨(ad.add (κ*2)).block,(ad.add (κ*2)).off+1,none⟩:Addr) by rw[←A0k ad ((κ+1)*2),←A0k ad (κ*2)];exact hna _ _ EE)).trans ((AY _ _ _ _ (show((ad.add ((κ+1)*2)):Addr)≠(⟨(ad.add (κ*2)).block,(ad.add (κ*2)).off+1,none⟩:Addr) by rw[←A0k ad (κ*2)];exact hna _ _ EE)).trans cj1))
      have mj1:(((wr.setCell (ad.add ((κ+1)*2)) (.string (S z.text))).setCell ⟨(ad.add ((κ+1)*2)).block,(ad.add ((κ+1)*2)).off+1,none⟩ (.int .i64 z.at_)).setCell (ad.add (κ*2)) (.string (S e.text))).cell? ⟨(ad.add (κ*2)).block,(ad.add (κ*2)).off+1,none⟩=some (.int .i64 z.at_):=((AY _ _ _ _ (show((ad.add (κ*2)):Addr)≠(⟨(ad.add (κ*2)).block,(ad.add (κ*2)).off+1,none⟩:Addr) by rw[←A0k ad (κ*2)];exact hna _ _ EE)).trans ((AY _ _ _ _ (show(⟨(ad.add ((κ+1)*2)).block,(ad.add ((κ+1)*2)).off+1,none⟩:Addr)≠(⟨(ad.add (κ*2)).block,(ad.add (κ*2)).off+1,none⟩:Addr) by rw[←A0k ad ((κ+1)*2),←A0k ad (κ*2)];exact hna _ _ EE)).trans ((AY _ _ _ _ (show((ad.add ((κ+1)*2)):Addr)≠(⟨(ad.add (κ*2)).block,(ad.add (κ*2)).off+1,none⟩:Addr) by rw[←A0k ad (κ*2)];exact hna _ _ EE)).trans cj1)))
      obtain⟨W9,hW9⟩:∃W9,W9=((((wr.setCell (ad.add ((κ+1)*2)) (.string (S z.text))).setCell ⟨(ad.add ((κ+1)*2)).block,(ad.add ((κ+1)*2)).off+1,none⟩ (.int .i64 z.at_)).setCell (ad.add (κ*2)) (.string (S e.text))).setCell ⟨(ad.add (κ*2)).block,(ad.add (κ*2)).off+1,none⟩ (.int .i64 e.at_)):=⟨_,rfl⟩
      rw[←hW9] at s3
      have hg9:wr.grownBy W9 (some ad.block):=by
       exact B9R
      have HW9:=AA hW9
      clear hW9
      have HS9:=AA s3
      clear s0 s1 s2 s3 hna
      clear f0 f1 f2 f3
      have k0:wr.cell? (ad.add (κ*2))=some (.string (S z.text))∧wr.cell? ⟨(ad.add (κ*2)).block,(ad.add (κ*2)).off+1,none⟩=some (.int .i64 z.at_):=⟨cj0,cj1⟩
      have HK0:=AA k0;clear k0
      have kj:((wr.setCell (ad.add ((κ+1)*2)) (.string (S z.text))).setCell ⟨(ad.add ((κ+1)*2)).block,(ad.add ((κ+1)*2)).off+1,none⟩ (.int .i64 z.at_)).cell? (ad.add (κ*2))=some (.string (S z.text))∧((wr.setCell (ad.add ((κ+1)*2)) (.string (S z.text))).setCell ⟨(ad.add ((κ+1)*2)).block,(ad.add ((κ+1)*2)).off+1,none⟩ (.int .i64 z.at_)).cell? ⟨(ad.add (κ*2)).block,(ad.add (κ*2)).off+1,none⟩=some (.int .i64 z.at_):=⟨pj0,pj1⟩
      have HKJ:=AA kj;clear kj
      go_wp2_with fail
      obtain⟨F1,HF1,hcell10,hcell11⟩:=cells2 (ad.add (κ*2)) (.string (S z.text)) ⟨(ad.add (κ*2)).block,(ad.add (κ*2)).off+1,none⟩ (.int .i64 z.at_)
      refine A3e (.op 0 true (.op 1 true (.op 2 true (.op 3 true (.op 4 true (.op 5 true (.op 6 true (.op 7 true (.op 8 true (.op 9 true (.op 10 true (.op 11 true (.op 12 true (.op 13 false (.op 14 true (.op 15 false .nil)))))))))))))))) 16 16 [17] F1 EG EG EG rfl (fun _ _ _ _ _ h=>h) EG (by rw[HF1.out];exact HK0.out) (by rw[HF1.out];exact fun h=>h) ?_
      intro hne1
      simp only[A1L,A2I,AT,AP,AR]
      repeat(first|((first|refine Dx ?_|refine Dy ?_);intro K hK;go_big_quiet_op;go_big_quiet_on)|((first|refine Dz ?_|refine EA ?_);simp only[Act.put,AB,AE,AF]))
      refine A0s ?_
      go_wp2_with fail
      refine ED HF1 ?_ HK0.out
      repeat(first|((first|refine Dx ?_|refine Dy ?_);intro K hK;go_big_quiet_op;go_big_quiet_on)|((first|refine Dz ?_|refine EA ?_);simp only[Act.put,AB,AE,AF]))
      refine A0s ?_
      go_wp2_with fail
      refine ED HF1 ?_ HKJ.out
      repeat(first|((first|refine Dx ?_|refine Dy ?_);intro K hK;go_big_quiet_op;go_big_quiet_on)|((first|refine Dz ?_|refine EA ?_);simp only[Act.put,AB,AE,AF]))
      refine A2r ?_
      refine A0Y ?_
      go_wp2_with fail
      refine A1n ?_
      refine A0Y ?_
      go_wp2_with fail
      refine A1n ?_
      refine A1z ?_
      clear mi1 pj0 pj1 mj1 HKJ HK0
      clear fi0 fj0 fi1 fj1
      rw[HSET.out] at HS9
      have HN9:=AA (HROW.out.two HS9.out)
      clear HSET HROW HOWN HS9
      rw[Hid,←HLI.out] at HN9
      have HN9:=AA HN9
      have hgF:=A0M hgb hg9
      clear HLI HC9 hgb hg9
      go_wp2_with fail
      rw[←HW9.out]
      exact⟨⟨r,κ,by go_num,by have:=hjr.out;unfold Hid;omega,by omega,by omega,HN9.out.drew,HN.out,A3Y hgF⟩,by simp[intOf]⟩
     ·have g3:decide (cvT e z<0)=false:=AC hc
      have HF:=HSTOP.out.resolve_left hc
      have hrow:=HR.out
      rw[HF] at hrow
      have HR9:=AA hrow
      clear hrow HF HSTOP HR HAB HLI HC9 HB HZ HQS
      go_wp2_with fail
      refine wp_region_quiet_below EG EG ?_
      repeat(go_big_quiet_step ((go_at_call 195;exact BS (HC.out _))))
      refine wpQuiet_nil ?_
      intro w5 hb50
      have hb5:=A0B hb50
      clear hb50
      go_wp2_with fail
      go_roundw
      case rel=>exact⟨t+1,i+1,by go_num,by have:=hit.out;unfold Hid;omega,by omega,.inl EE,HR9.out.below hb5,A2N hgb hb5⟩
      case measure=>simp[intOf];omega
  ·have g1:decide ((i:Int)<(b:Int))=false:=AC EE
   have g1':decide (i<b)=false:=AC hlt
   have ht:x.length≤t:=by have:=hit.out;have:=HH.out;omega
   rw[AX ht,Au ht,Am] at hrow
   have HO:=AA hrow
   clear hrow ht
   go_wp2_with fail
   go_end0
   exact⟨rfl,HO.out,hgb⟩
theorem B3h(x:List Tn)(ad:Addr)(c N base:Nat)(w:World)(h:RowT w base ad c N x)(hN:N≤1000000)(hq:∀z∈x,QT z):
 Calls Tryz.prog 219 #[.slice (some ad) N c,.int .i64 (N:Int),.func (.func 195) #[] #[]] w fun e w'=>e= .returned (.tuple #[])∧RowT w' base ad c N (A0m leT x)∧w.grownBy w' (some ad.block):=by
 have HQ:=AA hq
 have HXN:=AA h.len
 have HROW:=AA h
 clear h hq
 go_enter Tryz.func219,Tryz.ntmps219
 go_wp2_with fail
 go_loopw [7,8] (fun av bv wr=>∃(ys:List (List Tn)) (r:List Tn) (ka kb:Nat),av= .int .i64 (ka:Int)∧bv= .int .i64 (kb:Int)∧Hid (x=ys.flatten++r∧(∀y∈ys,y.length=20)∧ka=ys.length*20∧kb=ka+20)∧ka≤N∧kb≤N+20∧ka+20≤kb∧kb≤ka+20∧RowT wr base ad c N (blks leT ys++r)∧w.grownBy wr (some ad.block)) (fun _ bv _=>N+40-(intOf bv).toNat)
 case atStart=>exact⟨[],x,0,20,rfl,rfl,⟨rfl,fun y hy=>absurd hy EH,rfl,rfl⟩,AS _,by omega,by omega,by omega,HROW.out,A0U _ _⟩
 case round=>
  clear HROW
  obtain⟨ys,r,ka,kb,rfl,rfl,HB,hka,hkb,hk1,hk2,hrow,hgb⟩:=hrel
  by_cases hlt:kb≤N
  ·have g1:decide ((kb:Int)≤(N:Int))=true:=AG EE
   have g1':decide (kb≤N)=true:=AG hlt
   obtain⟨h1,h2,h3,h4⟩:=HB.out
   have hfl:=A3k h2
   have hxl:=congrArg List.length h1
   rw[AJ,HXN.out,hfl] at hxl
   have hr20:20≤r.length:=EE
   have er:r.take 20++r.drop 20=r:=BC _ _
   have hl20:(r.take 20).length=20:=by rw[AV];omega
   have hrow1:RowT wr base ad c N (blks leT ys++(r.take 20++r.drop 20)):=by rw[er];exact hrow
   have HC:=AA (B2B (blks leT ys) (r.take 20) (r.drop 20) ad c N base ka kb wr hrow1 hN (by rw[A6x,hfl,h3]) (by rw[hl20,h4]) (fun z hz=>HQ.out z (by rw[h1];exact Cd _ (CI hz))))
   have HB2:Hid (x=(ys++ [r.take 20]).flatten++r.drop 20∧(∀y∈ys++ [r.take 20],y.length=20)∧kb=(ys++ [r.take 20]).length*20∧kb+20=kb+20):=by
    refine⟨?_, ?_, ?_,rfl⟩
    ·rw[h1];simp
    ·intro y hy
     rcases Af.1 hy with hy|hy
     ·exact h2 y hy
     ·rw[Ax] at hy;rw[hy];exact hl20
    ·rw[AJ,Ah,Cl];omega
   have HE:Hid (blks leT ys++(A0m leT (r.take 20)++r.drop 20)=blks leT (ys++ [r.take 20])++r.drop 20):=by rw[Hid,B0r,AN]
   clear h1 h2 h3 h4 hfl hxl hr20 er hl20 hrow1 hrow HB
   go_wp2_with fail
   refine HC.out.mono ?_
   rintro e w2 ⟨rfl,hr2,hg2⟩
   rw[HE.out] at hr2
   have HR2:=AA hr2
   have hgF:=A0M hgb hg2
   clear hr2 hg2 hgb HC HE
   go_wp2_with fail
   go_roundw
   case rel=>exact⟨ys++ [r.take 20],r.drop 20,kb,kb+20,rfl,by go_num,⟨HB2.out.1,HB2.out.2.1,HB2.out.2.2.1,rfl⟩,hlt,by omega,by omega,by omega,HR2.out,hgF⟩
   case measure=>simp[intOf];omega
  ·have g1:decide ((kb:Int)≤(N:Int))=false:=AC EE
   have g1':decide (kb≤N)=false:=AC hlt
   obtain⟨h1,h2,h3,h4⟩:=HB.out
   have hfl:=A3k h2
   have hxl:=congrArg List.length h1
   rw[AJ,HXN.out,hfl] at hxl
   have hrow1:RowT wr base ad c N (blks leT ys++(r++ [])):=by rw[Aq];exact hrow
   have HC:=AA (B2B (blks leT ys) r [] ad c N base ka N wr hrow1 hN (by rw[A6x,hfl,h3]) EE (fun z hz=>HQ.out z (by rw[h1];exact Cd _ hz)))
   have HB2:Hid (x=ys.flatten++r∧(∀y∈ys,y.length=20)∧r.length<20):=⟨h1,h2,by omega⟩
   clear h1 h2 h3 h4 hfl hxl hrow1 hrow HB
   go_wp2_with fail
   refine HC.out.mono ?_
   rintro e w2 ⟨rfl,hr2,hg2⟩
   rw[Aq] at hr2
   have HR2:=AA hr2
   have hgF:=A0M hgb hg2
   clear hr2 hg2 hgb HC
   go_wp2_with fail
   go_loopw [6] (fun Bv wr=>∃(ys:List (List Tn)) (t:List Tn) (B:Nat),Bv= .int .i64 (B:Int)∧Hid (x=ys.flatten++t∧(∀y∈ys,y.length=B)∧t.length<B)∧20≤B∧B≤N+N+20∧RowT wr base ad c N (blks leT ys++A0m leT t)∧w.grownBy wr (some ad.block)) (fun Bv _=>N-(intOf Bv).toNat)
   case atStart=>exact⟨ys,r,20,rfl,HB2,AD _,by omega,HR2.out,hgF⟩
   case round=>
    clear HB2 HR2 hgF hka hkb hk1 hk2 g1 g1' hlt
    obtain⟨ys,t,B,rfl,HB,hB20,hBN,hrow,hgb⟩:=hrel
    by_cases hlt:B<N
    ·have g1:decide ((B:Int)<(N:Int))=true:=AG EE
     have g1':decide (B<N)=true:=AG hlt
     obtain⟨B2,hB2⟩:∃B2,B2=2*B:=⟨_,rfl⟩
     have e2:2*(B:Int)=(B2:Int):=EE
     have HE2:=AA (And.intro e2 hB2)
     have hR0:Hid (RowT wr base ad c N (blks leT []++(blks leT ys++A0m leT t))):=hrow
     have HB0:Hid (x=([]:List (List Tn)).flatten++(ys.flatten++t)∧(∀z∈([]:List (List Tn)),z.length=B2)∧(∀y∈ys,y.length=B)∧t.length<B∧0=([]:List (List Tn)).length*B2):=⟨HB.out.1,fun z hz=>absurd hz EH,HB.out.2.1,HB.out.2.2,by simp⟩
     have hb1:B+B≤B2:=EE
     have hb2:B2≤B+B:=EE
     clear hrow HB e2 hB2
     go_wp2_with fail
     rw[HE2.out.1]
     go_loopw [7,8] (fun av bv wr=>∃(zs xs:List (List Tn)) (ka kb:Nat),av= .int .i64 (ka:Int)∧bv= .int .i64 (kb:Int)∧Hid (x=zs.flatten++(xs.flatten++t)∧(∀z∈zs,z.length=B2)∧(∀y∈xs,y.length=B)∧t.length<B∧ka=zs.length*B2)∧ka≤N∧ka+B2≤kb∧kb≤ka+B2∧RowT wr base ad c N (blks leT zs++(blks leT xs++A0m leT t))∧w.grownBy wr (some ad.block)) (fun _ bv _=>N+B2+B2-(intOf bv).toNat)
     case atStart=>exact⟨[],ys,0,B2,rfl,rfl,HB0,AS _,by omega,by omega,hR0.out,hgb⟩
     case round=>
      clear hR0 HB0 hgb
      obtain⟨zs,xs,ka,kb,rfl,rfl,HB,hka,hk1,hk2,hrow,hgb⟩:=hrel
      obtain⟨h1,h2,h3,h4,h5⟩:=HB.out
      have hfz:=A3k h2
      have hfx:=A3k h3
      have hxl:=congrArg List.length h1
      rw[AJ,AJ,HXN.out,hfz,hfx] at hxl
      have hqm:∀z,z∈zs.flatten∨z∈xs.flatten∨z∈t→QT z:=fun z hz=>HQ.out z (by rw[h1];simp only[Af];exact hz)
      by_cases hlt2:kb≤N
      ·have g2:decide ((kb:Int)≤(N:Int))=true:=AG EE
       have g2':decide (kb≤N)=true:=AG hlt2
       obtain⟨x1,x2,xs',hxs⟩:∃x1 x2 xs',xs=x1::x2::xs':=by
        match xs,hxl with
        |[],e=>simp at e;omega
        |[_],e=>simp at e;omega
        |x1::x2::xs',_=>exact⟨x1,x2,xs',rfl⟩
       subst hxs
       have l1:=h3 x1 EH
       have l2:=h3 x2 EH
       have hrow1:RowT wr base ad c N (blks leT zs++(A0m leT x1++(A0m leT x2++(blks leT xs'++A0m leT t)))):=by
        have e:blks leT (x1::x2::xs')++A0m leT t=A0m leT x1++(A0m leT x2++(blks leT xs'++A0m leT t)):=by rw[A3o,A3o];simp only[AN]
        rw[←e];exact hrow
       have HC:=AA (A4U (B+B) (blks leT zs) (A0m leT x1) (A0m leT x2) (blks leT xs'++A0m leT t) ad c N base ka (ka+B) kb wr hrow1 hN (by rw[A6x,hfz,h5]) (by rw[A1A,l1]) (by rw[A1A,l2];omega) (by rw[A1A];omega) (by rw[A1A];omega) (A4a tpT _) (A4a tpT _)
        (fun z hz=>hqm z (by
         simp only[Af,A8h,A4K] at hz
         rcases hz with h|h|h|h|h
         ·exact .inl h
         ·exact .inr (.inl (by simp[h]))
         ·exact .inr (.inl (by simp[h]))
         ·exact .inr (.inl (by
           rw[BD,BD]
           exact Cd _ (Cd _ h)))
         ·exact .inr (.inr h))) (by rw[A1A,A1A];omega))
       have HBN:Hid (x=(zs++ [x1++x2]).flatten++(xs'.flatten++t)∧(∀z∈zs++ [x1++x2],z.length=B2)∧(∀y∈xs',y.length=B)∧t.length<B∧kb=(zs++ [x1++x2]).length*B2):=by
        refine⟨?_, ?_,fun y hy=>h3 y (by simp[hy]),h4, ?_⟩
        ·rw[h1];simp
        ·intro z hz
         rcases Af.1 hz with hz|hz
         ·exact h2 z hz
         ·rw[Ax] at hz;rw[hz,AJ];omega
        ·rw[AJ,Ah,Cl];omega
       have HE:Hid (blks leT zs++((A0m leT x1).merge (A0m leT x2) leT++(blks leT xs'++A0m leT t))=blks leT (zs++ [x1++x2])++(blks leT xs'++A0m leT t)):=by
        rw[Hid,←A4p tpT,B0r];simp only[AN]
       have e7:((ka+B:Nat):Int)=(ka:Int)+(B:Int):=EE
       rw[Hid,e7] at HC
       have HC:=AA HC
       have e8:(kb:Int)+(B2:Int)=((kb+B2:Nat):Int):=EE
       have HE8:=AA e8
       clear h1 h2 h3 h4 h5 hfz hfx hxl hqm l1 l2 hrow1 hrow HB e7 e8
       go_wp2_with fail
       refine HC.out.mono ?_
       rintro e w2 ⟨rfl,hr2,hg2⟩
       rw[HE.out] at hr2
       have HR2:=AA hr2
       have hgF:=A0M hgb hg2
       clear hr2 hg2 hgb HC HE
       go_wp2_with fail
       rw[HE2.out.1,HE8.out]
       go_roundw
       case rel=>exact⟨zs++ [x1++x2],xs',kb,kb+B2,rfl,rfl,HBN,hlt2,by omega,by omega,HR2.out,hgF⟩
       case measure=>simp[intOf];omega
      ·have g2:decide ((kb:Int)≤(N:Int))=false:=AC EE
       have g2':decide (kb≤N)=false:=AC hlt2
       have e9:(B:Int)*2=(B2:Int):=EE
       have HE9:=AA e9
       by_cases hm:ka+B<N
       ·have g3:decide ((ka:Int)+(B:Int)<(N:Int))=true:=AG EE
        obtain⟨x1,hxs⟩:∃x1,xs=[x1]:=by
         match xs,hxl with
         |[],e=>simp at e;omega
         |[x1],_=>exact⟨x1,rfl⟩
         |_::_::xs',e=>
          simp only[AM,Cl] at e
          omega
        subst hxs
        have l1:=h3 x1 EH
        simp only[Ah,Ct] at hxl
        have ht0:0<t.length:=EE
        have hrow1:RowT wr base ad c N (blks leT zs++(A0m leT x1++(A0m leT t++ []))):=by
         have e:blks leT [x1]++A0m leT t=A0m leT x1++(A0m leT t++ []):=by rw[A3o,A8g,Aq,Aq]
         rw[←e];exact hrow
        have HC:=AA (A4U (B+B) (blks leT zs) (A0m leT x1) (A0m leT t) [] ad c N base ka (ka+B) N wr hrow1 hN (by rw[A6x,hfz,h5]) (by rw[A1A,l1]) (by rw[A1A];omega) (by rw[A1A];omega) (by rw[A1A];omega) (A4a tpT _) (A4a tpT _)
         (fun z hz=>hqm z (by
          simp only[Af,A8h,A4K] at hz
          rcases hz with h|h|h|h
          ·exact .inl h
          ·exact .inr (.inl (by simp[h]))
          ·exact .inr (.inr h)
          ·cases h)) (by rw[A1A,A1A];omega))
        have HBN:Hid (x=zs.flatten++(x1++t)∧(∀z∈zs,z.length=B2)∧(x1++t).length<B2):=by
         refine⟨?_,h2, ?_⟩
         ·rw[h1];simp
         ·rw[AJ];omega
        have HE:Hid (blks leT zs++((A0m leT x1).merge (A0m leT t) leT++ [])=blks leT zs++A0m leT (x1++t)):=by
         rw[Hid,←A4p tpT,Aq]
        have e7:((ka+B:Nat):Int)=(ka:Int)+(B:Int):=EE
        rw[Hid,e7] at HC
        have HC:=AA HC
        clear h1 h2 h3 h4 h5 hfz hfx hxl hqm l1 ht0 hrow1 hrow HB e7 e9
        go_wp2_with fail
        refine HC.out.mono ?_
        rintro e w2 ⟨rfl,hr2,hg2⟩
        rw[HE.out] at hr2
        have HR2:=AA hr2
        have hgF:=A0M hgb hg2
        clear hr2 hg2 hgb HC HE
        go_wp2_with fail
        rw[HE9.out]
        go_roundw
        case rel=>exact⟨zs,x1++t,B2,rfl,HBN,by omega,by omega,HR2.out,hgF⟩
        case measure=>simp[intOf];omega
       ·have g3:decide ((ka:Int)+(B:Int)<(N:Int))=false:=AC EE
        obtain⟨t',ht',hl',hr'⟩:∃t',xs.flatten++t=t'∧t'.length<B2∧blks leT xs++A0m leT t=A0m leT t':=by
         match xs,hxl,h3 with
         |[],_,_=>exact⟨t,rfl,by omega,rfl⟩
         |[x1],e,h3=>
          have l1:=h3 x1 EH
          simp only[Ah,Ct] at e
          have ht0:t=[]:=AU EE
          subst ht0
          refine⟨x1,by simp,by omega, ?_⟩
          rw[A3o,A8g,Aq,B0s,Aq]
         |_::_::xs',e,_=>
          simp only[AM,Cl] at e
          omega
        rw[hr'] at hrow
        have HR2:=AA hrow
        have HBN:Hid (x=zs.flatten++t'∧(∀z∈zs,z.length=B2)∧t'.length<B2):=⟨by rw[h1,ht'],h2,hl'⟩
        clear h1 h2 h3 h4 h5 hfz hfx hxl hqm hrow HB e9 ht' hl' hr'
        go_wp2_with fail
        rw[HE9.out]
        go_roundw
        case rel=>exact⟨zs,t',B2,rfl,HBN,by omega,by omega,HR2.out,hgb⟩
        case measure=>simp[intOf];omega
    ·have g1:decide ((B:Int)<(N:Int))=false:=AC EE
     have g1':decide (B<N)=false:=AC hlt
     obtain⟨h1,h2,h3⟩:=HB.out
     have hfy:=A3k h2
     have hxl:=congrArg List.length h1
     rw[AJ,HXN.out,hfy] at hxl
     have hE:blks leT ys++A0m leT t=A0m leT x:=by
      match ys,hxl,h1 with
      |[],_,h1=>rw[h1];rfl
      |[y],e,h1=>
       simp only[Ah,Ct] at e
       have ht0:t=[]:=AU EE
       subst ht0
       rw[h1,A3o,A8g,Aq,B0s,Aq];simp
      |_::_::ys',e,_=>
       simp only[AM,Cl] at e
       omega
     rw[hE] at hrow
     have HO:=AA hrow
     clear hrow hE hxl hfy h1 h2 h3 HB
     go_wp2_with fail
     go_end0
     exact⟨rfl,HO.out,hgb⟩
theorem A9b(x:List Tn)(ad:Addr)(c N base:Nat)(w:World)(h:RowT w base ad c N x)(hN:N≤1000000)(hq:∀z∈x,QT z):
 Calls Tryz.prog 194 #[.slice (some ad) N c,.func (.func 195) #[] #[]] w fun e w'=>e= .returned (.tuple #[])∧RowT w' base ad c N (A0m leT x)∧w.grownBy w' (some ad.block):=by
 have HS:=AA (B3h x ad c N base w h hN hq)
 clear h hq
 go_enter Tryz.func194,Tryz.ntmps194
 go_wp2_with fail
 refine HS.out.mono ?_
 rintro e w1 ⟨rfl,ho1,hg1⟩
 have HO1:=AA ho1
 clear ho1
 go_wp2_with fail
 go_end0
 exact⟨rfl,HO1.out,hg1⟩
theorem A8l(A:Option Addr)(c:Nat)(w:World):
 Calls Tryz.prog 194 #[.slice A 0 c,.func (.func 195) #[] #[]] w fun e w'=>e= .returned (.tuple #[])∧w'=w:=by
 have HI:Hid (∀W,Calls Tryz.prog 243 #[.slice A 0 c,.int .i64 0,.int .i64 0,.func (.func 195) #[] #[]] W fun e w'=>e= .returned (.tuple #[])∧w'=W):=fun W=>by
  go_enter Tryz.func243,Tryz.ntmps243
  exact C2e
 have HS:Hid (Calls Tryz.prog 219 #[.slice A 0 c,.int .i64 0,.func (.func 195) #[] #[]] w fun e w'=>e= .returned (.tuple #[])∧w'=w):=by
  unfold Hid
  go_enter Tryz.func219,Tryz.ntmps219
  go_wp2_with fail
  refine wp_loop_rounds 1 ?_
  rw[rounds_succ]
  go_wp2_with fail
  refine(HI.out _).mono ?_
  rintro e w1 ⟨rfl,rfl⟩
  exact C2e
 go_enter Tryz.func194,Tryz.ntmps194
 go_wp2_with fail
 refine HS.out.mono ?_
 rintro e w1 ⟨rfl,rfl⟩
 go_wp2_with fail
 go_end0
 exact⟨rfl,rfl⟩
theorem B6W{α:Type}{le:α→α→Bool}(h:Tp le){R:α→α→Prop}{x:α}:∀{v:List α},(∀y∈v,R x y)→(v.Pairwise fun x y=>le x y=true∧(le y x=true→R x y))→([x].merge v le).Pairwise fun x y=>le x y=true∧(le y x=true→R x y)
 |[],_,_=>by rw[BG];exact CW _ _
 |y::v,hr,hp=>by
  rw[A0N]
  by_cases hc:le x y=true
  ·rw[if_pos hc,BN]
   refine CR.2 ⟨fun z hz=>⟨?_,fun _=>hr z hz⟩,hp⟩
   rcases Br.1 hz with rfl|hz
   ·exact hc
   ·exact h.trans _ _ _ hc ((CR.1 hp).1 z hz).1
  ·rw[if_neg hc]
   have hyx:le y x=true:=h.flip (by rwa[Bool.not_eq_true] at hc)
   refine CR.2 ⟨fun z hz=> ?_,B6W h (fun z hz=>hr z (.tail _ hz)) (CR.1 hp).2⟩
   rcases A4o.1 hz with hz|hz
   ·rw[Ax] at hz;subst hz
    exact⟨hyx,fun e=>absurd e hc⟩
   ·exact(CR.1 hp).1 z hz
theorem B0C{α:Type}{le:α→α→Bool}(h:Tp le){R:α→α→Prop}:∀{l:List α},l.Pairwise R→(A0m le l).Pairwise fun x y=>le x y=true∧(le y x=true→R x y)
 |[],_=>List.Pairwise.nil
 |x::l,hp=>by
  rw[A0m]
  obtain⟨h1,h2⟩:=CR.1 hp
  exact B6W h (fun y hy=>h1 y (A4K.1 hy)) (B0C h h2)
def tnOf(s:List UInt8)(i:Nat):Tn:=⟨rotT s i,(i:Int)⟩
def A3S(s:List UInt8)(n:Nat):List Tn:=(List.range n).map (tnOf s)
theorem B6X(s:List UInt8)(n:Nat):(A3S s n).length=n:=by simp[A3S]
theorem B4U(s:List UInt8)(n:Nat):A3S s (n+1)=A3S s n++ [tnOf s n]:=by unfold A3S;rw[List.range_succ,BM];rfl
theorem B6Y{s:List UInt8}{i j:Nat}:leT (tnOf s i) (tnOf s j)=true↔¬rotT s j<rotT s i:=by
 rw[A4b]
 unfold cvT tnOf
 rw[(A4w _ _).1]
theorem A7W(s:List UInt8):(A0R s).Nodup:=(A2H s).nodup_iff.2 List.nodup_range
theorem B4V(s:List UInt8):A0m leT (A3S s s.length)=(A0R s).map (tnOf s):=by
 refine List.Perm.eq_of_pairwise (le:=fun x y=>leT x y=true∧(leT y x=true→x.at_<y.at_)) (fun a b _ _ h1 h2=> ?_) (B0C tpT ?_) ?_ ((A5f _).trans ((A2H s).symm.map _))
 ·have:=h1.2 h2.1
  have:=h2.2 h1.1
  omega
 ·unfold A3S
  rw[List.pairwise_map]
  exact List.pairwise_lt_range.imp fun{a b} h=>by show(a:Int)<(b:Int);omega
 ·rw[List.pairwise_map]
  refine((B8f s).and (List.nodup_iff_pairwise_ne.1 (A7W s))).imp fun{a b} ⟨h1,h2⟩=> ?_
  rw[B6Y,B6Y]
  refine⟨fun h=>h1 (.inl h),fun h=> ?_⟩
  have e:rotT s b=rotT s a:=List.le_antisymm h (fun h3=>h1 (.inl h3))
  have h4:¬b<a:=fun h3=>h1 (.inr ⟨e,h3⟩)
  show(a:Int)<(b:Int)
  omega
theorem B8r{s:List UInt8}{i:Nat}(h:i<s.length):(rotT s i).drop (s.length-1)=[A4D s i]:=by
 have hl:=B2b (s:=s) (i:=i) EE
 have hc:=B8e (s:=s) (i:=i) (j:=s.length-1) h EE
 rw[Ag EE,Dh EE]
 congr 1
 rw[AK,AL EE] at hc
 unfold A4D
 rw[show i+s.length-1=i+(s.length-1) by omega]
 exact hc
def atF(s:List UInt8)(k:Nat):Nat:=if(A0R s).idxOf 0<k then(A0R s).idxOf 0 else 0
theorem B9i{s:List UInt8}{k:Nat}(hk:k<s.length)(h:(A0R s).getD k 0=0):atF s (k+1)=k:=by
 have hl:k<(A0R s).length:=by rw[A1H];exact hk
 have e:(A0R s)[k]=0:=by rw[←h,AK,AL hl];rfl
 have:=(A7W s).idxOf_getElem k hl
 rw[e] at this
 unfold atF
 rw[this,if_pos EE]
theorem B8s{s:List UInt8}{k:Nat}(hk:k<s.length)(h:(A0R s).getD k 0≠0):atF s (k+1)=atF s k:=by
 have hne:(A0R s).idxOf 0≠k:=fun e=>h (by
  have hl:(A0R s).idxOf 0<(A0R s).length:=by rw[e,A1H];exact hk
  rw[AK,←e,AL hl]
  exact List.getElem_idxOf hl)
 unfold atF
 by_cases h1:(A0R s).idxOf 0<k
 ·rw[if_pos h1,if_pos EE]
 ·rw[if_neg h1,if_neg EE]
theorem B9j(s:List UInt8):atF s s.length=A1g s:=by
 unfold atF A1g
 by_cases h:s=[]
 ·subst h;rfl
 ·rw[if_neg h,if_pos]
  have hm:0∈A0R s:=(A2H s).mem_iff.2 (Bc.2 (BO.2 h))
  have:=DC hm
  rwa[A1H] at this
theorem B9k:(Tryz.prog.info? 259).map (fun i=>(i.zero,i.size,i.bytes))=some (some (.agg #[.string ByteArray.empty,.int .i64 0]),2,24):=by kernel_rfl
theorem B6Z(l:List Tn)(v:Value)(w0 w:World)(h:OwnO w w0.heap.size 259 2 v l.length (A2c l))(hb:Below w0.heap.size w0 w)(hl:l.length≤1000000):
 Calls Tryz.prog 194 #[v,.func (.func 195) #[] #[]] w fun e w'=>e= .returned (.tuple #[])∧OwnO w' w0.heap.size 259 2 v l.length (A2c (A0m leT l))∧Below w0.heap.size w0 w':=by
 rcases h.2 with⟨rfl,h0⟩|⟨g,o,cap,cur,rfl,_⟩
 ·obtain rfl:l=[]:=AU h0
  refine(A8l none 0 w).mono ?_
  rintro e w' ⟨rfl,rfl⟩
  exact⟨rfl,h,hb⟩
 ·refine(A9b l ⟨g,o,none⟩ cap l.length w0.heap.size w ⟨h,rfl⟩ hl (fun z _=>AS _)).mono ?_
  rintro e w' ⟨rfl,hr,hg⟩
  exact⟨rfl,hr.own,hb.grown hg hb.size (fun q hq=>by cases hq;exact(h.lt _ rfl).1)⟩
theorem B2C(l:List Tn)(x:Tn):A2c l++ [.string (S x.text),.int .i64 x.at_]=A2c (l++ [x]):=by unfold A2c;rw[CX];rfl
theorem B9l(s:ByteArray)(i:Nat):s.extract i s.size++s.extract 0 i=S (rotT (L s) i):=by
 have h:L (s.extract i s.size++s.extract 0 i)=rotT (L s) i:=by
  rw[A3U,A0x,A0x]
  unfold rotT
  rw[Az,Bh,AX (by rw[AZ,A0e];exact AD _)]
 rw[←h,S_L]
theorem B2D(s:ByteArray)(hs:s.size≤200)(w:World):
 Calls Tryz.prog 158 #[.string s] w fun e w'=>e= .returned (.tuple #[.string (S (A1p (L s))),.int .i64 ((A1g (L s):Nat):Int)])∧Below w.heap.size w w':=by
 obtain⟨i0,hi0,hz0,hz1,hz2⟩:=info_parts B9k
 have HLL:=AA (A0e s)
 have HRS:=fun i=>AA (B9l s i)
 go_enter Tryz.func158,Tryz.ntmps158
 go_wp2_with fail
 go_loopw [4,12] (fun bv iv wq=>∃i:Nat,iv= .int .i64 (i:Int)∧i≤s.size∧OwnO wq w.heap.size 259 2 bv i (A2c (A3S (L s) i))∧Below w.heap.size w wq) (fun _ iv _=>s.size-(intOf iv).toNat)
 case atStart=>exact⟨0,rfl,AS _,OwnO.nil_,AI _ _⟩
 case round=>
  obtain⟨i,rfl,hi,hown,hb⟩:=hrel
  by_cases hlt:i<s.size
  ·have g1:decide ((i:Int)<(s.size:Int))=true:=AG EE
   have g1':decide (i<s.size)=true:=AG hlt
   have HAP:Hid (A2c (A3S (L s) i)++ [.string (s.extract i s.size++s.extract 0 i),.int .i64 (i:Int)]=A2c (A3S (L s) (i+1))):=by
    rw[Hid,(HRS i).out,B4U,←B2C];rfl
   have hO:=hown.below ((AI _ _).alloc (AD _) (.cells #[.string (s.extract i s.size++s.extract 0 i),.int .i64 (i:Int)] 259))
   have hbA:Below w.heap.size w (wr.alloc (.cells #[.string (s.extract i s.size++s.extract 0 i),.int .i64 (i:Int)] 259)):=A0h hb ((AI _ _).alloc (AD _) _)
   go_wp2_with fail
   obtain⟨F1,hFd⟩:∃F:World→Prop,F=fun w'=>True:=⟨_,rfl⟩
   have HF1:=AA hFd
   clear hFd
   refine EB [(0,true),(1,true),(2,true),(3,true),(4,true),(5,true),(6,true),(7,true),(8,true),(9,true),(10,false),(11,false),(12,true)] HF1 ?_
   intro hne1
   simp only[A0i,AT,AP,AR]
   repeat(first|((first|refine Dt ?_|refine Du ?_);intro K hK;go_big_quiet_op;go_big_quiet_on)|((first|refine Dv ?_|refine Dw ?_);simp only[Act.put,AB,AE,AF]))
   refine A0a ?_
   go_wp2_with fail
   refine ED HF1 ?_
   repeat(first|((first|refine Dt ?_|refine Du ?_);intro K hK;go_big_quiet_op;go_big_quiet_on)|((first|refine Dv ?_|refine Dw ?_);simp only[Act.put,AB,AE,AF]))
   refine A0a ?_
   go_wp2_with (at_builtin;go_must (refine A3J rfl _ _ _ rfl w.heap.size 259 i0 _ 2 24 Tryz.underlying257 hi0 hz0 hz1 hz2 rfl EE _ i (A2c (A3S (L s) i)) rfl hO ⟨_,0,none⟩ 1 1 [.string (s.extract i s.size++s.extract 0 i),.int .i64 (i:Int)] rfl rfl (B4f _ _ _ _) (by simp[Value.oneCell']) EE EE hbA.size ?_);intro v9 w9 hown9 hg9 hb9 ha9)
   refine ED HF1 ?_
   repeat(first|((first|refine Dt ?_|refine Du ?_);intro K hK;go_big_quiet_op;go_big_quiet_on)|((first|refine Dv ?_|refine Dw ?_);simp only[Act.put,AB,AE,AF]))
   refine A0g ?_
   rw[HAP.out] at hown9
   have hB9:=hbA.drew.trans hb9
   go_wp2_with fail
   go_roundw
   case rel=>exact⟨i+1,by go_num,by omega,hown9,hB9⟩
   case measure=>simp[intOf];omega
  ·obtain rfl:i=s.size:=EE
   have g1:decide ((s.size:Int)<(s.size:Int))=false:=AC EE
   have hlb:=B6X (L s) s.size
   have hST:=B6Z (A3S (L s) s.size) _ w wr (by rw[hlb];exact hown) hb (by rw[hlb];omega)
   have hss:=B4V (L s)
   rw[HLL.out] at hss
   rw[hss,hlb] at hST
   have HST:=AA hST
   obtain⟨Ab,cb,rfl,_,_,_⟩:=hown.form
   clear hlb hss hST hown hb HRS
   go_wp2_with fail
   refine HST.out.mono ?_
   rintro e w5 ⟨rfl,hown5,hb5⟩
   obtain⟨A',c',hv,_,_,hr5⟩:=hown5.form
   cases hv
   have HR5:=AA hr5
   have HB5:=AA hb5
   clear HST hown5 hr5 hb5
   go_wp2_with fail
   go_loopw [6,7,32] (fun sv av iv wq=>∃k:Nat,iv= .int .i64 (k:Int)∧k≤s.size∧sv= .string (S ((A1p (L s)).take k))∧av= .int .i64 ((atF (L s) k:Nat):Int)∧Below w5.heap.size w5 wq) (fun _ _ iv _=>s.size-(intOf iv).toNat)
   case atStart=>exact⟨0,rfl,AS _,rfl,rfl,AI _ _⟩
   case round=>
    obtain⟨k,rfl,hk,rfl,rfl,hbq⟩:=hrel
    have hqs:=hbq.size
    by_cases hlt2:k<s.size
    ·have g3:decide ((k:Int)<(s.size:Int))=true:=AG EE
     have g3':decide (k<s.size)=true:=AG hlt2
     obtain⟨i,hi'⟩:∃i,i=(A0R (L s)).getD k 0:=⟨_,rfl⟩
     have hin:i<s.size:=by have:=B2c (s:=L s) (k:=k) (by rw[HLL.out];exact hlt2);rw[HLL.out,←hi'] at this;exact this
     have hrq:=(HR5.out.more (AD _)).below hbq
     obtain⟨ad,hl,e,-,hc⟩:=Rd.at_rec (ec:=Tn.cells) B0z EE hrq hlt2
     cases e
     have hx:((A0R (L s)).map (tnOf (L s)))[k]'(by rw[AW,A1H,HLL.out];exact hlt2)=tnOf (L s) i:=by
      rw[Bf,hi',AK,AL (by rw[A1H,HLL.out];exact hlt2)];rfl
     rw[hx] at hc
     have c0:wr.cell? (ad.add (k*2))=some (.string (S (rotT (L s) i))):=hc 0 _ rfl
     have c1:wr.cell? (ad.add (k*2+1))=some (.int .i64 (i:Int)):=hc 1 _ rfl
     rw[A0k] at c1
     have HSN:Hid (S ((A1p (L s)).take k)++(S (rotT (L s) i)).extract (s.size-1) s.size=S ((A1p (L s)).take (k+1))):=by
      have h9:=B8r (s:=L s) (i:=i) (by rw[HLL.out];exact hin)
      have e9:(S (rotT (L s) i)).extract (s.size-1) s.size=S [A4D (L s) i]:=by
       have h8:L ((S (rotT (L s) i)).extract (s.size-1) s.size)=[A4D (L s) i]:=by
        rw[A0x,L_S,←HLL.out,h9]
        rw[AX (by rw[HLL.out];simp;omega)]
       rw[←h8,S_L]
      rw[Hid,e9,A8O (by rw[HLL.out];exact hlt2),←hi',A1i,L_S,L_S]
     have HTZ:Hid ((S (rotT (L s) i)).size=s.size):=by rw[Hid,A0b,B2b (by rw[HLL.out];omega),HLL.out]
     have hA1:=fun h=>B9i (s:=L s) (k:=k) (by rw[HLL.out];exact hlt2) h
     have hA2:=fun h=>B8s (s:=L s) (k:=k) (by rw[HLL.out];exact hlt2) h
     rw[←hi'] at hA1 hA2
     have HA1:=AA hA1;have HA2:=AA hA2
     have hBq:=AA hbq
     generalize S (rotT (L s) i)=T at*
     have hTz:=HTZ.out
     have hSZ:(S ((A1p (L s)).take k)).size≤200:=by rw[A0b,AV,A3Z,HLL.out];omega
     have hBA:=fun t=>A0h hBq.out ((AI wr.heap.size wr).alloc (AD _) t)
     clear hx hc hi' hrq hl hA1 hA2 hbq
     by_cases h0:i=0
     ·have hat:=HA1.out h0
      subst h0
      go_wp2_with fail
      go_roundw
      case rel=>exact⟨k+1,by go_num,by omega,by rw[HSN.out],by rw[hat],hBA _⟩
      case measure=>simp[intOf];omega
     ·have hat:=HA2.out h0
      have g4:((i:Int)==0)=false:=by rw[AH];omega
      have g4':(i==0)=false:=by rw[AH];exact h0
      go_wp2_with fail
      go_roundw
      case rel=>exact⟨k+1,by go_num,by omega,by rw[HSN.out],by rw[hat],hBA _⟩
      case measure=>simp[intOf];omega
    ·obtain rfl:k=s.size:=EE
     have g3:decide ((s.size:Int)<(s.size:Int))=false:=AC EE
     have HE:Hid (S ((A1p (L s)).take s.size)=S (A1p (L s))∧atF (L s) s.size=A1g (L s)):=by
      refine⟨by rw[AX (by rw[A3Z,HLL.out];exact AD _)], ?_⟩
      have:=B9j (L s)
      rwa[HLL.out] at this
     have hB:=A0h HB5.out hbq
     go_wp2_with fail
     (apply bodyPost_ret;(simp[results,Tryz.results158,go_sem];rfl);rfl)
     rw[HE.out.1,HE.out.2]
     exact⟨rfl,hB⟩
def fW:List UInt8→Option Int:=fun t=>if t=L (⟨#[102,97,114]⟩:ByteArray) then some 2 else if t=L (⟨#[116,117,114,110]⟩:ByteArray) then some 1 else if t=L (⟨#[115,112,108,105,116]⟩:ByteArray) then some 1 else if t=L (⟨#[102,105,110,100]⟩:ByteArray) then some 2 else if t=L (⟨#[112,101,114,105,111,100,115]⟩:ByteArray) then some 1 else none
theorem B9m{x:List UInt8}(h:(askN x).1=0):fW x=none:=by
 by_cases h1:x=kPer
 ·subst h1;exact absurd h EF
 by_cases h2:x=A0G
 ·subst h2;exact absurd h EF
 by_cases h3:x=A0v
 ·subst h3;exact absurd h EF
 by_cases h4:x=A0H
 ·subst h4;exact absurd h EF
 by_cases h5:x=kFar
 ·subst h5;exact absurd h EF
 show(if x=kFar then some (2:Int) else if x=A0H then some 1 else if x=A0v then some 1 else if x=A0G then some 2 else if x=kPer then some 1 else none)=none
 rw[if_neg h5,if_neg h4,if_neg h3,if_neg h2,if_neg h1]
theorem B9n{x:List UInt8}(h:(askN x).1≠0):fW x=some ((askN x).2:Int):=by
 rcases B0B h with e|e|e|e|e<;>subst e<;>decide
theorem A7r:fW kPer=some 1∧fW A0G=some 2∧fW A0v=some 1∧fW A0H=some 1∧fW kFar=some 2:=by decide
theorem A4R(r:List (List UInt8)):A1O (r.map S)=A1q r:=by
 unfold A1O A1q
 have:(∃s∈r.map S,200<s.size)↔(∃x∈r,200<x.length):=by
  constructor
  ·rintro⟨s,hs,h⟩
   obtain⟨x,hx,rfl⟩:=DA.1 hs
   exact⟨x,hx,by rwa[A0b] at h⟩
  ·rintro⟨x,hx,h⟩
   exact⟨S x,DA.2 ⟨x,hx,rfl⟩,by rwa[A0b]⟩
 by_cases h:∃x∈r,200<x.length
 ·rw[if_pos h,if_pos (this.2 h)]
 ·rw[if_neg h,if_neg (fun h'=>h (this.1 h'))]
theorem A3s(r:List (List UInt8)):(r.map S).map Value.string=strCells r:=by unfold strCells;rw[CE];rfl
theorem B3i(x0:List UInt8)(A:Option Addr)(n c:Nat)(w:World)(hx:x0.length≤4096)(hk:askK x0 n=0):
 Calls Tryz.prog 101 #[.string (S x0),.slice A n c] w fun e w'=>e= .returned (.tuple #[.string ⟨#[]⟩,.bool false])∧Below w.heap.size w w':=by
 have HLX:Hid (L (S x0)=x0):=L_S x0
 have hxs:(S x0).size≤4096:=by rw[A0b];exact hx
 by_cases h0:(askN x0).1=0
 ·have HFW:=AA (B9m h0)
  clear hk h0 hx
  exact C0U
 ·have HFW:=AA (B9n h0)
  have hne:(askN x0).2≠n:=fun h=>by
   unfold askK at hk
   rw[if_pos h] at hk
   exact h0 hk
  generalize(askN x0).2=M at*
  have g1:((M:Int)==(n:Int))=false:=by rw[AH];omega
  have g1':((M:Int) !=(n:Int))=true:=by rw[bne,g1];rfl
  have g2:(M==n)=false:=by rw[AH];exact hne
  have g2':(M !=n)=true:=by rw[bne,g2];rfl
  clear hk h0 hx hne
  exact C0U
theorem B0D:∀F:List (List UInt8),F≠ []→(F.flatMap fun u=>32::u)=32::Lib.join F [32]
 |[],h=>absurd rfl h
 |[x],_=>by simp[Lib.join,List.intercalate]
 |x::y::r,_=>by
  have ih:=B0D (y::r) EH
  rw[BI,ih]
  simp only[Lib.join,List.intercalate]
  rw[List.intersperse_cons_cons,BD,BD]
  simp
theorem B7a:∀{F:List (List UInt8)},(∀u∈F,u≠ [])→F.length≤F.flatten.length
 |[],_=>AD _
 |a::F,h=>by
  have h1:=B7a (F:=F) (fun u hu=>h u (by simp[hu]))
  have h2:0<a.length:=BO.2 (h a EH)
  rw[BD,AJ,AM]
  omega
def B7b(v:Value):Nat:=match v with| .string b=>b.size|_=>0
theorem B3j(F:List (List UInt8)):(F.flatMap fun u=>32::u).length=F.flatten.length+F.length:=by
 induction F with
 |nil=>rfl
 |cons a F ih=>rw[BI,AJ,ih,BD,AJ];simp;omega
theorem SpAt.dropN{s:List UInt8}{F:List (List UInt8)}(h:SpAt s F s.length):∀i,i≤F.length→SpAt (F.drop i).flatten (F.drop i) (F.drop i).flatten.length
 |0,_=>by
  have:=h.fl
  rw[BJ] at this
  rw[Az,this];exact h
 |i+1,hi=>by
  have ih:=SpAt.dropN h i EE
  rw[Ag EE] at ih
  exact ih.tail
theorem B4W(x:List UInt8)(b o c:Nat)(w:World)(hbw:b<w.heap.size)(hr:Rd w w.heap.size 1 (some ⟨b,o,none⟩) 1 (strCells [x]))(c0:w.cell? ⟨b,o,none⟩=some (.string (S x)))(ht:TabI w):
 Calls Tryz.prog 101 #[.string (S kPer),.slice (some ⟨b,o,none⟩) 1 c] w fun e w'=>e= .returned (.tuple #[.string (S (if askE kPer [x]=0 then askT kPer [x] else errB (askE kPer [x]))),.bool true])∧Below w.heap.size w w':=by
 have HLX:Hid (L (S kPer)=kPer):=L_S _
 have hxs:(S kPer).size≤4096:=by rw[A0b];decide
 have HFW:Hid (fW kPer=some 1):=A7r.1
 have q1:((S kPer).toList==[112,101,114,105,111,100,115])=true:=by rw[eqk];decide
 have q2:((S kPer).toList==[102,105,110,100])=false:=by rw[eqk];decide
 have q3:((S kPer).toList==[115,112,108,105,116])=false:=by rw[eqk];decide
 have q4:((S kPer).toList==[116,117,114,110])=false:=by rw[eqk];decide
 have q5:((S kPer).toList==[102,97,114])=false:=by rw[eqk];decide
 have HLG:=AA (fun W (hb:Below w.heap.size w W)=>A5m ([x].map S) (some ⟨b,o,none⟩) 1 c w.heap.size W (by rw[A3s];exact hr.below hb) EF)
 rw[A4R] at HLG
 have HK:Hid (askK kPer [x].length=1):=by unfold Hid;exact(by decide:askK kPer 1=1)
 have HLT:Hid (askE kPer [x]=A1q [x]):=by unfold Hid askE;rw[HK.out,if_neg EF]
 rw[HLT.out]
 clear HLT hr
 generalize S kPer=X0 at*
 by_cases hl9:A1q [x]=0
 ·rw[if_pos hl9]
  rw[hl9] at HLG
  have HSX:Hid (L (S x)=x∧(S x).size=x.length):=⟨L_S x,A0b x⟩
  have hl:x.length≤200:=by unfold A1q at hl9;simp at hl9;omega
  have HT:Hid (askT kPer [x]=rowS (pI x (x.length+1))):=by unfold Hid askT;simp only;rw[HK.out];rfl
  rw[HT.out]
  clear HT HK
  have HP:=AA (fun W=>B0S (S x) (by rw[HSX.out.2];exact hl) W)
  rw[HSX.out.1,HSX.out.2] at HP
  have HPL:Hid ((pI x (x.length+1)).length≤201∧∀z∈pI x (x.length+1),-9223372036854775808≤z∧z≤9223372036854775807):=by
   exact B9T
  clear HSX hl hl9
  generalize S x=X1 at*
  generalize pI x (x.length+1)=l at*
  have hmm:=@run_makeMap Tryz.prog
  go_enter Tryz.func101,Tryz.ntmps101
  have hm:=MapSI.made w
  have hb5:Below w.heap.size w (w.alloc (.map #[] 0)):=Ds
  go_wp2_with (refine MapSI.insert hm (by unfold maxLen;omega) _ (by unfold maxLen;decide) _ EF rfl _ _ _ rfl rfl rfl rfl ?_;intro w1 hm1 hg1;have hb6:=hb5.grown hg1 hb5.size (fun k hk=>by cases hk;exact AD _);clear hm hb5 hg1;have hm:=hm1;have hb5:=hb6;clear hm1 hb6;(first|(have hlk:=(MapSI.ext hm (g:=fW) (fun t=>rfl)).look_ok X0 (by unfold maxLen;omega);rw[HLX.out,HFW.out] at hlk)|skip))
  clear hm
  go_wp2_with fail
  refine(HLG.out _ hb5).mono ?_
  rintro e w6 ⟨rfl,hb6⟩
  have hb6:=hb5.trans (hb6.mono hb5.size)
  clear HLG hb5
  have c0':=(hb6.cell (p:=⟨b,o,none⟩) hbw).trans c0
  go_wp2_with fail
  refine(HP.out _).mono ?_
  rintro e w7 ⟨v,rfl,ho,hb7⟩
  obtain⟨A1,n1,rfl,hnc,_,hrd⟩:=A1e ho
  have hb8:=hb6.trans (hb7.mono hb6.size)
  clear ho HP c0'
  go_wp2_with fail
  refine(A8J l A1 l.length n1 _ _ hrd (AD _) (AQ HPL.out.1 EF) HPL.out.2 (A0c ht hb8)).mono ?_
  exact C1X
 ·exact C2O
theorem B3k(x y:List UInt8)(b o c:Nat)(w:World)(hbw:b<w.heap.size)(hr:Rd w w.heap.size 1 (some ⟨b,o,none⟩) 2 (strCells [x,y]))(c0:w.cell? ⟨b,o,none⟩=some (.string (S x)))(c1:w.cell? ⟨b,o+1,none⟩=some (.string (S y)))(ht:TabI w):
 Calls Tryz.prog 101 #[.string (S A0G),.slice (some ⟨b,o,none⟩) 2 c] w fun e w'=>e= .returned (.tuple #[.string (S (if askE A0G [x,y]=0 then askT A0G [x,y] else errB (askE A0G [x,y]))),.bool true])∧Below w.heap.size w w':=by
 have HLX:Hid (L (S A0G)=A0G):=L_S _
 have hxs:(S A0G).size≤4096:=by rw[A0b];decide
 have HFW:Hid (fW A0G=some 2):=A7r.2.1
 have q1:((S A0G).toList==[112,101,114,105,111,100,115])=false:=by rw[eqk];decide
 have q2:((S A0G).toList==[102,105,110,100])=true:=by rw[eqk];decide
 have q3:((S A0G).toList==[115,112,108,105,116])=false:=by rw[eqk];decide
 have q4:((S A0G).toList==[116,117,114,110])=false:=by rw[eqk];decide
 have q5:((S A0G).toList==[102,97,114])=false:=by rw[eqk];decide
 have HLG:=AA (fun W (hb:Below w.heap.size w W)=>A5m ([x,y].map S) (some ⟨b,o,none⟩) 2 c w.heap.size W (by rw[A3s];exact hr.below hb) EF)
 rw[A4R] at HLG
 have HK:Hid (askK A0G [x,y].length=2):=by unfold Hid;exact(by decide:askK A0G 2=2)
 have HLT:Hid (askE A0G [x,y]=A1q [x,y]):=by unfold Hid askE;rw[HK.out,if_neg EF]
 rw[HLT.out]
 clear HLT hr
 generalize S A0G=X0 at*
 by_cases hl9:A1q [x,y]=0
 ·rw[if_pos hl9]
  rw[hl9] at HLG
  have HSX:Hid (L (S x)=x∧(S x).size=x.length):=⟨L_S x,A0b x⟩
  have HSY:Hid (L (S y)=y∧(S y).size=y.length):=⟨L_S y,A0b y⟩
  have hl:x.length≤200∧y.length≤200:=by unfold A1q at hl9;simp at hl9;omega
  have HT:Hid (askT A0G [x,y]=rowS (A1m x y (x.length+1-y.length))):=by unfold Hid askT;simp only;rw[HK.out];rfl
  rw[HT.out]
  clear HT HK
  have HP:=AA (fun W=>B4T (S x) (S y) (by rw[HSX.out.2];exact hl.1) (by rw[HSY.out.2];exact hl.2) W)
  rw[HSX.out.1,HSX.out.2,HSY.out.1,HSY.out.2] at HP
  have HPL:Hid ((A1m x y (x.length+1-y.length)).length≤201∧∀z∈A1m x y (x.length+1-y.length),-9223372036854775808≤z∧z≤9223372036854775807):=by
   exact B9U
  clear HSX HSY hl hl9
  generalize S x=X1 at*
  generalize S y=X2 at*
  generalize A1m x y (x.length+1-y.length)=l at*
  have hmm:=@run_makeMap Tryz.prog
  go_enter Tryz.func101,Tryz.ntmps101
  have hm:=MapSI.made w
  have hb5:Below w.heap.size w (w.alloc (.map #[] 0)):=Ds
  go_wp2_with (refine MapSI.insert hm (by unfold maxLen;omega) _ (by unfold maxLen;decide) _ EF rfl _ _ _ rfl rfl rfl rfl ?_;intro w1 hm1 hg1;have hb6:=hb5.grown hg1 hb5.size (fun k hk=>by cases hk;exact AD _);clear hm hb5 hg1;have hm:=hm1;have hb5:=hb6;clear hm1 hb6;(first|(have hlk:=(MapSI.ext hm (g:=fW) (fun t=>rfl)).look_ok X0 (by unfold maxLen;omega);rw[HLX.out,HFW.out] at hlk)|skip))
  clear hm
  go_wp2_with fail
  refine(HLG.out _ hb5).mono ?_
  rintro e w6 ⟨rfl,hb6⟩
  have hb6:=hb5.trans (hb6.mono hb5.size)
  clear HLG hb5
  have c0':=(hb6.cell (p:=⟨b,o,none⟩) hbw).trans c0
  have c1':=(hb6.cell (p:=⟨b,o+1,none⟩) hbw).trans c1
  go_wp2_with fail
  obtain⟨F1,HF1,hcell10,hcell11⟩:=cells2 ⟨b,o,none⟩ (.string X1) ⟨b,o+1,none⟩ (.string X2)
  refine EB [(0,true),(1,true),(2,true),(3,true),(4,true),(5,true),(6,false),(7,false),(8,true),(9,true)] HF1 ?_
  intro hne1
  simp only[A0i,AT,AP,AR]
  repeat(first|((first|refine Dt ?_|refine Du ?_);intro K hK;go_big_quiet_op;go_big_quiet_on)|((first|refine Dv ?_|refine Dw ?_);simp only[Act.put,AB,AE,AF]))
  refine A0a ?_
  go_wp2_with fail
  refine(HP.out _).mono ?_
  rintro e w7 ⟨v,rfl,ho,hb7⟩
  obtain⟨A1,n1,rfl,hnc,_,hrd⟩:=A1e ho
  have hb8:=hb6.trans (((Bl (AI _ _)).trans hb7).mono hb6.size)
  clear ho HP
  have c0'':=(hb8.cell (p:=⟨b,o,none⟩) hbw).trans c0
  have c1'':=(hb8.cell (p:=⟨b,o+1,none⟩) hbw).trans c1
  go_wp2_with fail
  refine ED HF1 ?_ ⟨c0'',c1''⟩
  repeat(first|((first|refine Dt ?_|refine Du ?_);intro K hK;go_big_quiet_op;go_big_quiet_on)|((first|refine Dv ?_|refine Dw ?_);simp only[Act.put,AB,AE,AF]))
  refine A0a ?_
  go_wp2_with fail
  refine(A8J l A1 l.length n1 _ _ hrd (AD _) (AQ HPL.out.1 EF) HPL.out.2 (A0c ht hb8)).mono ?_
  exact C0Y
 ·have hl2:A1q [x,y]=2:=by
   exact C1g
  exact C0w
theorem B3l(x:List UInt8)(b o c:Nat)(w:World)(hbw:b<w.heap.size)(hr:Rd w w.heap.size 1 (some ⟨b,o,none⟩) 1 (strCells [x]))(c0:w.cell? ⟨b,o,none⟩=some (.string (S x)))(ht:TabI w):
 Calls Tryz.prog 101 #[.string (S A0H),.slice (some ⟨b,o,none⟩) 1 c] w fun e w'=>e= .returned (.tuple #[.string (S (if askE A0H [x]=0 then askT A0H [x] else errB (askE A0H [x]))),.bool true])∧Below w.heap.size w w':=by
 have HLX:Hid (L (S A0H)=A0H):=L_S _
 have hxs:(S A0H).size≤4096:=by rw[A0b];decide
 have HFW:Hid (fW A0H=some 1):=A7r.2.2.2.1
 have q1:((S A0H).toList==[112,101,114,105,111,100,115])=false:=by rw[eqk];decide
 have q2:((S A0H).toList==[102,105,110,100])=false:=by rw[eqk];decide
 have q3:((S A0H).toList==[115,112,108,105,116])=false:=by rw[eqk];decide
 have q4:((S A0H).toList==[116,117,114,110])=true:=by rw[eqk];decide
 have q5:((S A0H).toList==[102,97,114])=false:=by rw[eqk];decide
 have HLG:=AA (fun W (hb:Below w.heap.size w W)=>A5m ([x].map S) (some ⟨b,o,none⟩) 1 c w.heap.size W (by rw[A3s];exact hr.below hb) EF)
 rw[A4R] at HLG
 have HK:Hid (askK A0H [x].length=4):=by unfold Hid;exact(by decide:askK A0H 1=4)
 have HLT:Hid (askE A0H [x]=A1q [x]):=by unfold Hid askE;rw[HK.out,if_neg EF]
 rw[HLT.out]
 clear HLT hr
 generalize S A0H=X0 at*
 by_cases hl9:A1q [x]=0
 ·rw[if_pos hl9]
  rw[hl9] at HLG
  have HSX:Hid (L (S x)=x∧(S x).size=x.length):=⟨L_S x,A0b x⟩
  have hl:x.length≤200:=by unfold A1q at hl9;simp at hl9;omega
  have HT:Hid (askT A0H [x]=A1p x++ [32]++Lib.itoa (A1g x:Nat)):=by unfold Hid askT;simp only;rw[HK.out];rfl
  rw[HT.out]
  clear HT HK
  have HP:=AA (fun W=>B2D (S x) (by rw[HSX.out.2];exact hl) W)
  rw[HSX.out.1] at HP
  have hta:A1g x≤200:=by
   exact C0f
  have HI:=AA (fun W (hW:Below w.heap.size w W)=>A1Z ((A1g x:Nat):Int) EE EE ht hW)
  have HEX:Hid (S (A1p x)++⟨#[32]⟩++S (Lib.itoa (A1g x:Nat))=S (A1p x++ [32]++Lib.itoa (A1g x:Nat))):=by
   exact C0i
  have z0:(S (A1p x)).size≤200:=by rw[A0b,A3Z];exact hl
  have z1:(S (Lib.itoa ((A1g x:Nat):Int))).size≤21:=by rw[A0b];exact Lib.itoa_length_le _ EE EE
  rw[←HEX.out]
  clear HSX hl HEX hta hl9
  generalize S x=X1 at*
  generalize S (A1p x)=Y0 at*
  generalize S (Lib.itoa (A1g x:Nat))=Y1 at*
  generalize A1g x=k at*
  have hmm:=@run_makeMap Tryz.prog
  go_enter Tryz.func101,Tryz.ntmps101
  have hm:=MapSI.made w
  have hb5:Below w.heap.size w (w.alloc (.map #[] 0)):=Ds
  go_wp2_with (refine MapSI.insert hm (by unfold maxLen;omega) _ (by unfold maxLen;decide) _ EF rfl _ _ _ rfl rfl rfl rfl ?_;intro w1 hm1 hg1;have hb6:=hb5.grown hg1 hb5.size (fun k hk=>by cases hk;exact AD _);clear hm hb5 hg1;have hm:=hm1;have hb5:=hb6;clear hm1 hb6;(first|(have hlk:=(MapSI.ext hm (g:=fW) (fun t=>rfl)).look_ok X0 (by unfold maxLen;omega);rw[HLX.out,HFW.out] at hlk)|skip))
  clear hm
  go_wp2_with fail
  refine(HLG.out _ hb5).mono ?_
  rintro e w6 ⟨rfl,hb6⟩
  have hb6:=hb5.trans (hb6.mono hb5.size)
  clear HLG hb5
  have c0':=(hb6.cell (p:=⟨b,o,none⟩) hbw).trans c0
  go_wp2_with fail
  refine(HP.out _).mono ?_
  rintro e w7 ⟨rfl,hb7⟩
  have hb8:=hb6.trans (hb7.mono hb6.size)
  clear HP c0'
  go_wp2_with fail
  refine(HI.out _ hb8).mono ?_
  exact C1X
 ·exact C2O
theorem B4X(x y:List UInt8)(b o c:Nat)(w:World)(hbw:b<w.heap.size)(hr:Rd w w.heap.size 1 (some ⟨b,o,none⟩) 2 (strCells [x,y]))(c0:w.cell? ⟨b,o,none⟩=some (.string (S x)))(c1:w.cell? ⟨b,o+1,none⟩=some (.string (S y)))(ht:TabI w):
 Calls Tryz.prog 101 #[.string (S kFar),.slice (some ⟨b,o,none⟩) 2 c] w fun e w'=>e= .returned (.tuple #[.string (S (if askE kFar [x,y]=0 then askT kFar [x,y] else errB (askE kFar [x,y]))),.bool true])∧Below w.heap.size w w':=by
 have HLX:Hid (L (S kFar)=kFar):=L_S _
 have hxs:(S kFar).size≤4096:=by rw[A0b];decide
 have HFW:Hid (fW kFar=some 2):=A7r.2.2.2.2
 have q1:((S kFar).toList==[112,101,114,105,111,100,115])=false:=by rw[eqk];decide
 have q2:((S kFar).toList==[102,105,110,100])=false:=by rw[eqk];decide
 have q3:((S kFar).toList==[115,112,108,105,116])=false:=by rw[eqk];decide
 have q4:((S kFar).toList==[116,117,114,110])=false:=by rw[eqk];decide
 have q5:((S kFar).toList==[102,97,114])=true:=by rw[eqk];decide
 have HLG:=AA (fun W (hb:Below w.heap.size w W)=>A5m ([x,y].map S) (some ⟨b,o,none⟩) 2 c w.heap.size W (by rw[A3s];exact hr.below hb) EF)
 rw[A4R] at HLG
 have HK:Hid (askK kFar [x,y].length=5):=by unfold Hid;exact(by decide:askK kFar 2=5)
 have HLT:Hid (askE kFar [x,y]=A1q [x,y]):=by unfold Hid askE;rw[HK.out,if_neg EF]
 rw[HLT.out]
 clear HLT hr
 generalize S kFar=X0 at*
 by_cases hl9:A1q [x,y]=0
 ·rw[if_pos hl9]
  rw[hl9] at HLG
  have HSX:Hid (L (S x)=x∧(S x).size=x.length):=⟨L_S x,A0b x⟩
  have HSY:Hid (L (S y)=y∧(S y).size=y.length):=⟨L_S y,A0b y⟩
  have hl:x.length≤200∧y.length≤200:=by unfold A1q at hl9;simp at hl9;omega
  have HT:Hid (askT kFar [x,y]=Lib.itoa (lev x y:Nat)):=by unfold Hid askT;simp only;rw[HK.out];rfl
  rw[HT.out]
  clear HT HK
  have HP:=AA (fun W=>B5Y (S x) (S y) (by rw[HSX.out.2];exact hl.1) (by rw[HSY.out.2];exact hl.2) W)
  rw[HSX.out.1,HSY.out.1] at HP
  have hlv:=A5i x y
  have HI:=AA (fun W (hW:Below w.heap.size w W)=>A1Z ((lev x y:Nat):Int) EE EE ht hW)
  clear HSX HSY hl hlv hl9
  generalize S x=X1 at*
  generalize S y=X2 at*
  generalize S (Lib.itoa (lev x y:Nat))=Y1 at*
  generalize lev x y=k at*
  have hmm:=@run_makeMap Tryz.prog
  go_enter Tryz.func101,Tryz.ntmps101
  have hm:=MapSI.made w
  have hb5:Below w.heap.size w (w.alloc (.map #[] 0)):=Ds
  go_wp2_with (refine MapSI.insert hm (by unfold maxLen;omega) _ (by unfold maxLen;decide) _ EF rfl _ _ _ rfl rfl rfl rfl ?_;intro w1 hm1 hg1;have hb6:=hb5.grown hg1 hb5.size (fun k hk=>by cases hk;exact AD _);clear hm hb5 hg1;have hm:=hm1;have hb5:=hb6;clear hm1 hb6;(first|(have hlk:=(MapSI.ext hm (g:=fW) (fun t=>rfl)).look_ok X0 (by unfold maxLen;omega);rw[HLX.out,HFW.out] at hlk)|skip))
  clear hm
  go_wp2_with fail
  refine(HLG.out _ hb5).mono ?_
  rintro e w6 ⟨rfl,hb6⟩
  have hb6:=hb5.trans (hb6.mono hb5.size)
  clear HLG hb5
  have c0':=(hb6.cell (p:=⟨b,o,none⟩) hbw).trans c0
  have c1':=(hb6.cell (p:=⟨b,o+1,none⟩) hbw).trans c1
  go_wp2_with fail
  obtain⟨F1,HF1,hcell10,hcell11⟩:=cells2 ⟨b,o,none⟩ (.string X1) ⟨b,o+1,none⟩ (.string X2)
  refine EB [(0,true),(1,true),(2,true),(3,true),(4,true),(5,true),(6,false),(7,false),(8,true),(9,true)] HF1 ?_
  intro hne1
  simp only[A0i,AT,AP,AR]
  repeat(first|((first|refine Dt ?_|refine Du ?_);intro K hK;go_big_quiet_op;go_big_quiet_on)|((first|refine Dv ?_|refine Dw ?_);simp only[Act.put,AB,AE,AF]))
  refine A0a ?_
  go_wp2_with fail
  refine(HP.out _).mono ?_
  rintro e w7 ⟨rfl,hb7⟩
  have hb8:=hb6.trans (((Bl (AI _ _)).trans hb7).mono hb6.size)
  clear HP
  have c0'':=(hb8.cell (p:=⟨b,o,none⟩) hbw).trans c0
  have c1'':=(hb8.cell (p:=⟨b,o+1,none⟩) hbw).trans c1
  go_wp2_with fail
  refine ED HF1 ?_ ⟨c0'',c1''⟩
  repeat(first|((first|refine Dt ?_|refine Du ?_);intro K hK;go_big_quiet_op;go_big_quiet_on)|((first|refine Dv ?_|refine Dw ?_);simp only[Act.put,AB,AE,AF]))
  refine A0a ?_
  go_wp2_with fail
  refine(HI.out _ hb8).mono ?_
  exact C0Y
 ·have hl2:A1q [x,y]=2:=by
   exact C1g
  exact C0w
theorem B2E(x:List UInt8)(hx0:x≠ [])(b o c:Nat)(w:World)(hbw:b<w.heap.size)(hr:Rd w w.heap.size 1 (some ⟨b,o,none⟩) 1 (strCells [x]))(c0:w.cell? ⟨b,o,none⟩=some (.string (S x)))(ht:TabI w):
 Calls Tryz.prog 101 #[.string (S A0v),.slice (some ⟨b,o,none⟩) 1 c] w fun e w'=>e= .returned (.tuple #[.string (S (if askE A0v [x]=0 then askT A0v [x] else errB (askE A0v [x]))),.bool true])∧Below w.heap.size w w':=by
 have HLX:Hid (L (S A0v)=A0v):=L_S _
 have hxs:(S A0v).size≤4096:=by rw[A0b];decide
 have HFW:Hid (fW A0v=some 1):=A7r.2.2.1
 have q1:((S A0v).toList==[112,101,114,105,111,100,115])=false:=by rw[eqk];decide
 have q2:((S A0v).toList==[102,105,110,100])=false:=by rw[eqk];decide
 have q3:((S A0v).toList==[115,112,108,105,116])=true:=by rw[eqk];decide
 have q4:((S A0v).toList==[116,117,114,110])=false:=by rw[eqk];decide
 have q5:((S A0v).toList==[102,97,114])=false:=by rw[eqk];decide
 have HLG:=AA (fun W (hb:Below w.heap.size w W)=>A5m ([x].map S) (some ⟨b,o,none⟩) 1 c w.heap.size W (by rw[A3s];exact hr.below hb) EF)
 rw[A4R] at HLG
 have HK:Hid (askK A0v [x].length=3):=by unfold Hid;exact(by decide:askK A0v 1=3)
 have HLT:Hid (askE A0v [x]=A1q [x]):=by unfold Hid askE;rw[HK.out,if_neg EF]
 rw[HLT.out]
 clear HLT hr
 generalize S A0v=X0 at*
 by_cases hl9:A1q [x]=0
 ·rw[if_pos hl9]
  rw[hl9] at HLG
  have HSX:Hid (L (S x)=x∧(S x).size=x.length):=⟨L_S x,A0b x⟩
  have hl:x.length≤200:=by unfold A1q at hl9;simp at hl9;omega
  have HT:Hid (askT A0v [x]=Lib.join (lynF x) [32]):=by unfold Hid askT;simp only;rw[HK.out];rfl
  rw[HT.out]
  clear HT HK
  have HSF:=AA (A7z hl)
  have HFN:Hid (lynF x≠ []):=fun h=>by
   have:=(A7z hl).fl
   rw[h,BJ] at this
   exact hx0 this.symm
  clear HSX hl9
  have HXL:=AA hl
  clear hl hx0
  have HXF:Hid (S x=S ((lynF x).drop 0).flatten∧(S x).size=((lynF x).drop 0).flatten.length):=by
   have h1:=HSF.out.fl
   rw[BJ] at h1
   rw[Hid,Az,h1]
   exact⟨rfl,A0b x⟩
  have HDR:=AA (fun i hi=>HSF.out.dropN i hi)
  have HTL:Hid (∀i,((lynF x).drop i).flatten.length≤200):=fun i=>by
   have h1:=HSF.out.fl
   rw[BJ] at h1
   have h2:((lynF x).drop i).flatten.length≤(lynF x).flatten.length:=by
    exact C1E
   rw[h1] at h2
   exact AQ h2 HXL.out
  have HOL:Hid (∀i,((lynF x).take i).flatMap (fun u=>32::u)=((lynF x).take i).flatMap (fun u=>32::u)∧(((lynF x).take i).flatMap (fun u=>32::u)).length≤400):=fun i=>by
   refine⟨rfl, ?_⟩
   rw[B3j]
   have h1:=HSF.out.fl
   rw[BJ] at h1
   have h2:((lynF x).take i).flatten.length≤(lynF x).flatten.length:=by
    exact C1E
   have h3:((lynF x).take i).length≤((lynF x).take i).flatten.length:=B7a (fun u hu=>HSF.out.ne u (CI hu))
   rw[h1] at h2
   have:=HXL.out
   omega
  have HNE:=AA HSF.out.ne
  have hxs9:(S x).size≤200:=by rw[A0b];exact HXL.out
  clear HSF HXL
  generalize lynF x=F at*
  obtain⟨X1,hX1⟩:∃X1,S x=X1:=⟨_,rfl⟩
  rw[hX1] at HXF hxs9
  rw[hX1] at c0
  clear hX1
  have hmm:=@run_makeMap Tryz.prog
  go_enter Tryz.func101,Tryz.ntmps101
  have hm:=MapSI.made w
  have hb5:Below w.heap.size w (w.alloc (.map #[] 0)):=Ds
  go_wp2_with (refine MapSI.insert hm (by unfold maxLen;omega) _ (by unfold maxLen;decide) _ EF rfl _ _ _ rfl rfl rfl rfl ?_;intro w1 hm1 hg1;have hb6:=hb5.grown hg1 hb5.size (fun k hk=>by cases hk;exact AD _);clear hm hb5 hg1;have hm:=hm1;have hb5:=hb6;clear hm1 hb6;(first|(have hlk:=(MapSI.ext hm (g:=fW) (fun t=>rfl)).look_ok X0 (by unfold maxLen;omega);rw[HLX.out,HFW.out] at hlk)|skip))
  clear hm
  go_wp2_with fail
  refine(HLG.out _ hb5).mono ?_
  rintro e w6 ⟨rfl,hb6⟩
  have hb6:=hb5.trans (hb6.mono hb5.size)
  clear HLG hb5
  have c0':=(hb6.cell (p:=⟨b,o,none⟩) hbw).trans c0
  go_wp2_with fail
  go_quiet (fail)
  clear c0 c0' hxs
  go_wp2_with fail
  go_loopw [11,12] (fun ov sv wr=>∃(i:Nat) (O X:ByteArray),i≤F.length∧ov= .string O∧sv= .string X∧Hid (O=S ((F.take i).flatMap (fun u=>32::u)))∧O.size≤400∧Hid (X=S ((F.drop i).flatten)∧X.size=(F.drop i).flatten.length)∧X.size≤200∧Below w.heap.size w wr) (fun _ sv _=>B7b sv)
  case atStart=>exact⟨0,⟨#[]⟩,X1,AS _,rfl,rfl,rfl,by decide,HXF.out,hxs9,A0d hb6 _⟩
  case round=>
   clear HXF hb6 hxs9
   obtain⟨i,O,X,hi,rfl,rfl,HO,hos,HX,hxs,hb⟩:=hrel
   have hbs:=hb.size
   have HEQ:Hid (X.toList=(F.drop i).flatten):=by rw[Hid,HX.out.1,Ap];rfl
   by_cases hlt:i<F.length
   ·obtain⟨u,hu⟩:∃u,F[i]=u:=⟨_,rfl⟩
    have hdr:F.drop i=u::F.drop (i+1):=by rw[Ag hlt,hu]
    have hsp:=HDR.out i EE
    rw[hdr] at hsp
    obtain⟨e1,e2⟩:=hsp.first
    have hune:u≠ []:=HNE.out u (by rw[←hu];exact Ac hlt)
    have hul:0<u.length:=BO.2 hune
    have hxe:X=S (u++(F.drop (i+1)).flatten):=by rw[HX.out.1,hdr];rfl
    have hxl:X.size=u.length+(F.drop (i+1)).flatten.length:=by rw[hxe,A0b,AJ]
    have HLG9:Hid (∀n,u.length<n→n≤X.size→lynB (L (X.extract 0 n))=false):=fun n h1 h2=>by
     have h3:L (X.extract 0 n)=(u::F.drop (i+1)).flatten.take n:=by
      rw[A0x,hxe,L_S,Az,Bh];rfl
     rw[h3]
     exact A5R hsp h1 (by rw[hxl] at h2;simpa using h2)
    have HLU:Hid (lynB (L (X.extract 0 u.length))=true):=by
     rw[Hid,A0x,hxe,L_S,Az,Bh,Bz];exact e2
    have HXU:Hid (X.extract 0 u.length=S u):=by
     have:L (X.extract 0 u.length)=u:=by rw[A0x,hxe,L_S,Az,Bh,Bz]
     exact(S_L _).symm.trans (congrArg S this)
    have HXR:Hid (X.extract u.length X.size=S ((F.drop (i+1)).flatten)):=by
     have:L (X.extract u.length X.size)=(F.drop (i+1)).flatten:=by
      rw[A0x,hxl,hxe,L_S,DY,Bw]
      exact AX (AD _)
     rw[Hid,←this,S_L]
    have HOS:Hid (O++⟨#[32]⟩++X.extract 0 u.length=S ((F.take (i+1)).flatMap (fun u=>32::u))):=by
     rw[Hid,HXU.out,HO.out,Aa hlt,hu,CX,show(⟨#[32]⟩:ByteArray)=S [32] from rfl,A1i,A1i]
     simp only[L_S]
     simp
    have HOZ:=AA (HOL.out (i+1)).2
    have HXZ:=AA (HTL.out (i+1))
    have hnee:(F.drop i).flatten≠ []:=by
     rw[hdr]
     intro h
     rw[BD] at h
     exact hune (List.append_eq_nil_iff.1 h).1
    have r1:X.toList.isEmpty=false:=by rw[HEQ.out];simpa using hnee
    have r2:(X.toList==[])=false:=by rw[HEQ.out];simpa using hnee
    have r3:(X.toList !=[])=true:=by rw[HEQ.out];simpa using hnee
    have hux:u.length≤X.size:=EE
    clear HEQ HX HO hsp e1 e2 hxe hnee hdr hune hu
    have HXL9:=AA hxl
    clear hxl
    generalize u.length=m at*
    go_wp2_with fail
    go_loopw [13] (fun iv wr'=>∃n:Nat,m≤n∧n≤X.size∧iv= .int .i64 (n:Int)∧Below w.heap.size w wr') (fun iv _=>(intOf iv).toNat)
    case atStart=>exact⟨X.size,hux,AD _,rfl,hb⟩
    case round=>
     clear hb hbs
     obtain⟨n,hn1,hn2,rfl,hb⟩:=hrel
     have hbs:=hb.size
     have hes:(X.extract 0 n).size≤200:=by rw[Ak];omega
     have HLY:=AA (fun W=>B0V (X.extract 0 n) hes W)
     by_cases hnm:n=m
     ·subst hnm
      rw[HLU.out] at HLY
      go_wp2_with fail
      refine(HLY.out _).mono ?_
      rintro e w8 ⟨rfl,hb8⟩
      have hb9:=hb.trans (hb8.mono hbs)
      clear HLY hb8
      go_wp2_with fail
      go_quiet (fail)
      go_wp2_with fail
      go_roundw
      case rel=>
       refine⟨i+1,_,_,by omega,rfl,rfl,HOS.out, ?_,⟨HXR.out, ?_⟩, ?_,A0d hb9 _⟩
       ·rw[HOS.out,A0b];exact HOZ.out
       ·rw[HXR.out,A0b]
       ·rw[HXR.out,A0b];exact HXZ.out
      case measure=>
       simp only[B7b]
       rw[HXR.out,A0b]
       have:=HXL9.out
       omega
     ·rw[HLG9.out n EE hn2] at HLY
      go_wp2_with fail
      refine(HLY.out _).mono ?_
      rintro e w8 ⟨rfl,hb8⟩
      have hb9:=hb.trans (hb8.mono hbs)
      clear HLY hb8
      go_wp2_with fail
      go_roundw
      case rel=>exact⟨n-1,by omega,by omega,by go_num,hb9⟩
      case measure=>simp[intOf];omega
   ·obtain rfl:i=F.length:=EE
    have hnil:(F.drop F.length).flatten=[]:=by rw[DE];rfl
    have r1:X.toList.isEmpty=true:=by rw[HEQ.out,hnil];rfl
    have r2:(X.toList==[])=true:=by rw[HEQ.out,hnil];rfl
    have r3:(X.toList !=[])=false:=by rw[HEQ.out,hnil];rfl
    have HOJ:Hid (O=S (32::Lib.join F [32])):=by rw[Hid,HO.out,BJ,B0D F HFN.out]
    have HSZ:Hid (O.size=(Lib.join F [32]).length+1):=by rw[Hid,HOJ.out,A0b,AM]
    have ho1:1≤O.size:=by rw[HSZ.out];omega
    have HEX:Hid (O.extract 1 O.size=S (Lib.join F [32])):=by
     have:L (O.extract 1 O.size)=Lib.join F [32]:=by
      rw[A0x,HSZ.out,HOJ.out,L_S]
      simp
     rw[Hid,←this,S_L]
    clear HEQ HX HO hnil HOJ HSZ HOL HTL HDR HNE
    go_wp2_with fail
    go_ret2
    exact⟨by rw[HEX.out];rfl,hb⟩
 ·exact C2O
end Go.Proofs.YtplgghjdidmcfaaGreatDoor
