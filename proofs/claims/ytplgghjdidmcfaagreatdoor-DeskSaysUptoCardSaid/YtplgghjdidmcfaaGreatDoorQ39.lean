/- Written anew, smaller, by a program of our own out of our texts. No condition of our own. -/
import Derived.Test.YtplgghjdidmcfaaGreatDoorQ37
set_option maxRecDepth 100000
set_option maxHeartbeats 16000000
set_option linter.all false
namespace Go.Proofs.YtplgghjdidmcfaaGreatDoor
open Go.RowKit
theorem B9q(s:ByteArray)(A:Option Addr)(c:Nat)(rs:List Rc)(K:Nat→Prop)(w:World)(hf:RaOk w K A c rs s)(a:List UInt8)(hq:wds (L s)=A0Q::[a]):
 Calls Tryz.prog 49 #[.agg #[.slice A rs.length c],.string s,.func (.func 10) #[] #[]] w (A2h w K rs (A0Q::[a])):=by
 have q6:((S A0Q).toList==[110,97,109,101,115])=false:=by rw[eqk];decide
 have HLX:Hid (L (S A0Q)=A0Q):=L_S _
 have hxs:(S A0Q).size≤4096:=by rw[A0b];decide
 obtain⟨r,hr9⟩:∃r,[a]=r:=⟨_,rfl⟩
 have hdn:dkN A0Q=(3,2):=by decide
 have sa:(S a).size≤4096:=by rw[A0b];exact AQ (A0p (s:=s) (x:=a) (by rw[hq];simp)).2 hf.s
 rw[hr9] at hq⊢
 have HWD:=AA (fun W A c (hr:Rd W W.heap.size 1 A r.length (strCells r)) (ht:TabI W)=>A1s A0Q r A c W hr EF (fun x hx=>(A0p (s:=s) (x:=x) (by rw[hq];simp[hx])).1) ht)
 have hka:=A1S (x:=A0Q) (by rw[hdn];decide) r.length
 rw[if_pos hka,AC (by simpa using hka)] at HWD
 have hm9:r.length=1:=by rw[←hr9];rfl
 have HM:=AA hm9
 have HFK:Hid (fK A0Q=some 3):=by unfold Hid;decide
 have HFM:Hid (fM A0Q=some 1):=by unfold Hid;decide
 have HNK:Hid (¬(A0Q=A0O∧r=[])):=fun h=>absurd h.1 EF
 have HKN:Hid ((dkN A0Q).1≠0):=by rw[Hid,hdn];decide
 have hs9:dkS A0Q [a]=true:=by unfold dkS;rw[hdn];rfl
 have HSN:Hid (¬dkS A0Q r=false):=by rw[Hid,←hr9,hs9];decide
 have HXD:Hid (dkD A0Q r none=⟨3,0,S a,⟨#[]⟩,none,0,0,[]⟩):=by rw[Hid,←hr9];unfold dkD;rw[hdn];rfl
 have HR9:=AA hr9
 clear hr9 hdn hs9
 have HFF:=AA (fun W=>A1h s W hf.s)
 have HWE:=AA (fun x (h:x∈wds (L s))=>A0p h)
 have HWL:=AA (A1M s)
 have hss:=hf.s
 have HT:=AA hf.t
 have HO:=AA hf.o
 have HNM:=AA hf.n
 have HKW:=AA hf.k
 have HMX:=AA hf.m
 have HG0:=AA hf.g
 obtain⟨N,hN⟩:∃N,rs.length=N:=⟨_,rfl⟩
 have HRN:=AA (RaAt.new_ hf.r N)
 have HNN:=AA hN
 rw[hN]
 clear hf hN
 rw[hq] at HFF HWE HWL
 clear hq
 rw[hm9] at HWD
 clear hss hka hm9
 obtain⟨X0,hX9⟩:∃X0,S A0Q=X0:=⟨_,rfl⟩
 rw[hX9] at q6 HLX hxs HWD
 have HX09:=AA hX9
 clear hX9
 have hmm:=@run_makeMap Tryz.prog
 go_enter Tryz.func49,Tryz.ntmps49
 go_wp2_with fail
 generalize(w.alloc (.cells #[.slice A N c] 29)).alloc (.cells #[.slice none 0 0] 29)=w1 at*
 refine(HFF.out _).mono ?_
 rintro e w2 ⟨g2,rfl,ho2,hb2⟩
 have HRA:=AA (HRN.out.below hb2)
 have HRQ:=AA (Rd.of_own ho2)
 clear HFF ho2 hb2 HRN
 have HRT:=AA (A2s HRQ.out)
 have c0:w2.cell? ⟨g2,0,none⟩=some (.string X0):=by
  exact B9D
 clear HRQ
 rw[AM]
 rw[HM.out] at HRT⊢
 go_wp2_with fail
 go_quiet (fail)
 go_wp2_with fail
 have HRA2:=AA (HRA.out.below (A0d (AI _ _) nq))
 have HRT2:=AA ((HRT.out.drewN nq).more (A0d (B:=w2.heap.size) (AI _ w2) nq).size)
 refine(HWD.out _ _ _ HRT2.out (A0c HT.out HRA2.out.b)).mono ?_
 rintro e wq ⟨rfl,hbq⟩
 have HRA:=AA (HRA2.out.below hbq)
 have HRT:=AA ((HRT2.out.below hbq).more hbq.size)
 clear HRA2 HRT2 c0 hbq
 have hcs:=A1N HRT.out
 rw[←HR9.out] at hcs
 have hgl:g2<wq.heap.size:=by
  exact B9G
 have q1:=hcs 0 EH
 simp only[Ae,An] at q1
 clear hcs
 obtain⟨X1,hX1⟩:∃X1,S a=X1:=⟨_,rfl⟩
 rw[hX1] at q1 sa HXD
 clear hX1
 have hm:=MapSI.made wq
 have hb5:Below wq.heap.size wq (wq.alloc (.map #[] 0)):=(AI _ _).alloc (AD _) _
 go_wp2_with ((first|(refine MapSI.insert hm (by unfold maxLen;decide) _ (by unfold maxLen;decide) _ EF rfl _ _ _ rfl rfl rfl rfl ?_;intro w9 hm1 hg1;have hb6:=hb5.grown hg1 hb5.size (fun k hk=>by cases hk;first|exact AD _|exact hbx))|(have hb7:=hb5.alloc hb5.size (.map #[] 0);have hbx:=hb5.size;refine MapSI.insert (MapSI.made w9) (by unfold maxLen;decide) _ (by unfold maxLen;decide) _ EF rfl _ _ _ rfl rfl rfl rfl ?_;intro w9 hm1 hg1;have hb6:=hb7.grown hg1 hb7.size (fun k hk=>by cases hk;exact hbx);clear hb7));clear hm hb5 hg1;have hm:=hm1;have hb5:=hb6;clear hm1 hb6;(first|(have hlk:=(MapSI.ext hm (g:=fK) (fun t=>rfl)).look X0 (by unfold maxLen;omega);rw[HLX.out,HFK.out] at hlk)|(have hlm:=(MapSI.ext hm (g:=fM) (fun t=>rfl)).look X0 (by unfold maxLen;omega);rw[HLX.out,HFM.out] at hlm)|skip);(first|clear y1|skip);(first|clear y2|skip);(first|clear z3 z3l z2l|skip);have z3:=(HRA.out.below hb5).h.cell0;have z3l:=(HRA.out.below hb5).h.lt;have z2l:g2<w9.heap.size:=AO hgl hb5.size;have y1:=(hb5.cell (p:=⟨g2,1,none⟩) hgl).trans q1;skip)
 clear hm
 have hrz:=(HRA.out.below hb5).below ((AI w9.heap.size w9).alloc (AD _) (.cells #[.int .i64 3,.int .i64 0,.string X1,.string ⟨#[]⟩,.slice none 0 0] 32))
 generalize w9.alloc (.cells #[.int .i64 3,.int .i64 0,.string X1,.string ⟨#[]⟩,.slice none 0 0] 32)=wz at*
 have HD1:Hid (X1.size≤9223372036854775807):=by unfold Hid;omega
 have HD2:Hid ((⟨#[]⟩:ByteArray).size≤9223372036854775807):=AS _
 have HD3:Hid (Rd wz wz.heap.size 3 none 0 (A0f [])):=Rd.nil_
 have HD4:Hid (0≤9223372036854775807):=AS _
 have HRZ:=AA hrz
 clear hrz hlk hlm z3 z3l z2l y1
 skip
 have hdo:=A2l A c rs ⟨3,0,X1,⟨#[]⟩,none,0,0,[]⟩ (KK w K) wz ⟨HRZ.out.r,A4r HKW.out HRZ.out.h.lt HRZ.out.o.lt,HO.out,HD1.out,HD2.out,HD3.out,HD4.out,A0c HT.out HRZ.out.b,⟨_,(HRZ.out.b.cell (p:=⟨0,0,none⟩) HG0.out).trans HMX.out.choose_spec⟩,AO HG0.out HRZ.out.b.size⟩
 rw[HNN.out] at hdo
 unfold A1v Dd.val at hdo
 simp only at hdo
 refine hdo.mono ?_
 clear hdo
 rintro e wd ⟨A',c',rs',rfl,hm',hr',hb'⟩
 have z3:=(HRZ.out.below hb').h.cell0;have z3f:=(HRZ.out.below hb').h.frozen 0
 obtain⟨N',hN'⟩:∃N',rs'.length=N':=⟨_,rfl⟩
 rw[hN']
 have HN9:=AA hN'
 have HRA3:=AA (HRZ.out.turn (N':=N') hb' hr')
 have HM9:=AA hm'
 have HEA:=AA (A3T (P:=rs.map Rc.s) none HNK.out HKN.out HSN.out)
 rw[HXD.out] at HEA
 have HTL:=AA (A1o HO.out ⟨3,0,X1,⟨#[]⟩,none,0,0,[]⟩)
 have HRG:=AA (A2D (rs.map Rc.s) ⟨3,0,X1,⟨#[]⟩,none,0,0,[]⟩)
 clear hN' hm' hr' hb' HRZ HRA
 obtain⟨E,hE9⟩:∃E,hsE (rs.map Rc.s) ⟨3,0,X1,⟨#[]⟩,none,0,0,[]⟩=E:=⟨_,rfl⟩
 obtain⟨T,hT9⟩:∃T,hsT (rs.map Rc.s) ⟨3,0,X1,⟨#[]⟩,none,0,0,[]⟩=T:=⟨_,rfl⟩
 exact B9F
theorem B9r(s:ByteArray)(A:Option Addr)(c:Nat)(rs:List Rc)(K:Nat→Prop)(w:World)(hf:RaOk w K A c rs s)(a:List UInt8)(hq:wds (L s)=A0J::[a]):
 Calls Tryz.prog 49 #[.agg #[.slice A rs.length c],.string s,.func (.func 10) #[] #[]] w (A2h w K rs (A0J::[a])):=by
 have q6:((S A0J).toList==[110,97,109,101,115])=false:=by rw[eqk];decide
 have HLX:Hid (L (S A0J)=A0J):=L_S _
 have hxs:(S A0J).size≤4096:=by rw[A0b];decide
 obtain⟨r,hr9⟩:∃r,[a]=r:=⟨_,rfl⟩
 have hdn:dkN A0J=(4,2):=by decide
 have sa:(S a).size≤4096:=by rw[A0b];exact AQ (A0p (s:=s) (x:=a) (by rw[hq];simp)).2 hf.s
 rw[hr9] at hq⊢
 have HWD:=AA (fun W A c (hr:Rd W W.heap.size 1 A r.length (strCells r)) (ht:TabI W)=>A1s A0J r A c W hr EF (fun x hx=>(A0p (s:=s) (x:=x) (by rw[hq];simp[hx])).1) ht)
 have hka:=A1S (x:=A0J) (by rw[hdn];decide) r.length
 rw[if_pos hka,AC (by simpa using hka)] at HWD
 have hm9:r.length=1:=by rw[←hr9];rfl
 have HM:=AA hm9
 have HFK:Hid (fK A0J=some 4):=by unfold Hid;decide
 have HFM:Hid (fM A0J=some 1):=by unfold Hid;decide
 have HNK:Hid (¬(A0J=A0O∧r=[])):=fun h=>absurd h.1 EF
 have HKN:Hid ((dkN A0J).1≠0):=by rw[Hid,hdn];decide
 have hs9:dkS A0J [a]=true:=by unfold dkS;rw[hdn];rfl
 have HSN:Hid (¬dkS A0J r=false):=by rw[Hid,←hr9,hs9];decide
 have HXD:Hid (dkD A0J r none=⟨4,0,S a,⟨#[]⟩,none,0,0,[]⟩):=by rw[Hid,←hr9];unfold dkD;rw[hdn];rfl
 have HR9:=AA hr9
 clear hr9 hdn hs9
 have HFF:=AA (fun W=>A1h s W hf.s)
 have HWE:=AA (fun x (h:x∈wds (L s))=>A0p h)
 have HWL:=AA (A1M s)
 have hss:=hf.s
 have HT:=AA hf.t
 have HO:=AA hf.o
 have HNM:=AA hf.n
 have HKW:=AA hf.k
 have HMX:=AA hf.m
 have HG0:=AA hf.g
 obtain⟨N,hN⟩:∃N,rs.length=N:=⟨_,rfl⟩
 have HRN:=AA (RaAt.new_ hf.r N)
 have HNN:=AA hN
 rw[hN]
 clear hf hN
 rw[hq] at HFF HWE HWL
 clear hq
 rw[hm9] at HWD
 clear hss hka hm9
 obtain⟨X0,hX9⟩:∃X0,S A0J=X0:=⟨_,rfl⟩
 rw[hX9] at q6 HLX hxs HWD
 have HX09:=AA hX9
 clear hX9
 have hmm:=@run_makeMap Tryz.prog
 go_enter Tryz.func49,Tryz.ntmps49
 go_wp2_with fail
 generalize(w.alloc (.cells #[.slice A N c] 29)).alloc (.cells #[.slice none 0 0] 29)=w1 at*
 refine(HFF.out _).mono ?_
 rintro e w2 ⟨g2,rfl,ho2,hb2⟩
 have HRA:=AA (HRN.out.below hb2)
 have HRQ:=AA (Rd.of_own ho2)
 clear HFF ho2 hb2 HRN
 have HRT:=AA (A2s HRQ.out)
 have c0:w2.cell? ⟨g2,0,none⟩=some (.string X0):=by
  exact B9D
 clear HRQ
 rw[AM]
 rw[HM.out] at HRT⊢
 go_wp2_with fail
 go_quiet (fail)
 go_wp2_with fail
 have HRA2:=AA (HRA.out.below (A0d (AI _ _) nq))
 have HRT2:=AA ((HRT.out.drewN nq).more (A0d (B:=w2.heap.size) (AI _ w2) nq).size)
 refine(HWD.out _ _ _ HRT2.out (A0c HT.out HRA2.out.b)).mono ?_
 rintro e wq ⟨rfl,hbq⟩
 have HRA:=AA (HRA2.out.below hbq)
 have HRT:=AA ((HRT2.out.below hbq).more hbq.size)
 clear HRA2 HRT2 c0 hbq
 have hcs:=A1N HRT.out
 rw[←HR9.out] at hcs
 have hgl:g2<wq.heap.size:=by
  exact B9G
 have q1:=hcs 0 EH
 simp only[Ae,An] at q1
 clear hcs
 obtain⟨X1,hX1⟩:∃X1,S a=X1:=⟨_,rfl⟩
 rw[hX1] at q1 sa HXD
 clear hX1
 have hm:=MapSI.made wq
 have hb5:Below wq.heap.size wq (wq.alloc (.map #[] 0)):=(AI _ _).alloc (AD _) _
 go_wp2_with ((first|(refine MapSI.insert hm (by unfold maxLen;decide) _ (by unfold maxLen;decide) _ EF rfl _ _ _ rfl rfl rfl rfl ?_;intro w9 hm1 hg1;have hb6:=hb5.grown hg1 hb5.size (fun k hk=>by cases hk;first|exact AD _|exact hbx))|(have hb7:=hb5.alloc hb5.size (.map #[] 0);have hbx:=hb5.size;refine MapSI.insert (MapSI.made w9) (by unfold maxLen;decide) _ (by unfold maxLen;decide) _ EF rfl _ _ _ rfl rfl rfl rfl ?_;intro w9 hm1 hg1;have hb6:=hb7.grown hg1 hb7.size (fun k hk=>by cases hk;exact hbx);clear hb7));clear hm hb5 hg1;have hm:=hm1;have hb5:=hb6;clear hm1 hb6;(first|(have hlk:=(MapSI.ext hm (g:=fK) (fun t=>rfl)).look X0 (by unfold maxLen;omega);rw[HLX.out,HFK.out] at hlk)|(have hlm:=(MapSI.ext hm (g:=fM) (fun t=>rfl)).look X0 (by unfold maxLen;omega);rw[HLX.out,HFM.out] at hlm)|skip);(first|clear y1|skip);(first|clear y2|skip);(first|clear z3 z3l z2l|skip);have z3:=(HRA.out.below hb5).h.cell0;have z3l:=(HRA.out.below hb5).h.lt;have z2l:g2<w9.heap.size:=AO hgl hb5.size;have y1:=(hb5.cell (p:=⟨g2,1,none⟩) hgl).trans q1;skip)
 clear hm
 have hrz:=(HRA.out.below hb5).below ((AI w9.heap.size w9).alloc (AD _) (.cells #[.int .i64 4,.int .i64 0,.string X1,.string ⟨#[]⟩,.slice none 0 0] 32))
 generalize w9.alloc (.cells #[.int .i64 4,.int .i64 0,.string X1,.string ⟨#[]⟩,.slice none 0 0] 32)=wz at*
 have HD1:Hid (X1.size≤9223372036854775807):=by unfold Hid;omega
 have HD2:Hid ((⟨#[]⟩:ByteArray).size≤9223372036854775807):=AS _
 have HD3:Hid (Rd wz wz.heap.size 3 none 0 (A0f [])):=Rd.nil_
 have HD4:Hid (0≤9223372036854775807):=AS _
 have HRZ:=AA hrz
 clear hrz hlk hlm z3 z3l z2l y1
 skip
 have hdo:=A2l A c rs ⟨4,0,X1,⟨#[]⟩,none,0,0,[]⟩ (KK w K) wz ⟨HRZ.out.r,A4r HKW.out HRZ.out.h.lt HRZ.out.o.lt,HO.out,HD1.out,HD2.out,HD3.out,HD4.out,A0c HT.out HRZ.out.b,⟨_,(HRZ.out.b.cell (p:=⟨0,0,none⟩) HG0.out).trans HMX.out.choose_spec⟩,AO HG0.out HRZ.out.b.size⟩
 rw[HNN.out] at hdo
 unfold A1v Dd.val at hdo
 simp only at hdo
 refine hdo.mono ?_
 clear hdo
 rintro e wd ⟨A',c',rs',rfl,hm',hr',hb'⟩
 have z3:=(HRZ.out.below hb').h.cell0;have z3f:=(HRZ.out.below hb').h.frozen 0
 obtain⟨N',hN'⟩:∃N',rs'.length=N':=⟨_,rfl⟩
 rw[hN']
 have HN9:=AA hN'
 have HRA3:=AA (HRZ.out.turn (N':=N') hb' hr')
 have HM9:=AA hm'
 have HEA:=AA (A3T (P:=rs.map Rc.s) none HNK.out HKN.out HSN.out)
 rw[HXD.out] at HEA
 have HTL:=AA (A1o HO.out ⟨4,0,X1,⟨#[]⟩,none,0,0,[]⟩)
 have HRG:=AA (A2D (rs.map Rc.s) ⟨4,0,X1,⟨#[]⟩,none,0,0,[]⟩)
 clear hN' hm' hr' hb' HRZ HRA
 obtain⟨E,hE9⟩:∃E,hsE (rs.map Rc.s) ⟨4,0,X1,⟨#[]⟩,none,0,0,[]⟩=E:=⟨_,rfl⟩
 obtain⟨T,hT9⟩:∃T,hsT (rs.map Rc.s) ⟨4,0,X1,⟨#[]⟩,none,0,0,[]⟩=T:=⟨_,rfl⟩
 exact B9F
end Go.Proofs.YtplgghjdidmcfaaGreatDoor
