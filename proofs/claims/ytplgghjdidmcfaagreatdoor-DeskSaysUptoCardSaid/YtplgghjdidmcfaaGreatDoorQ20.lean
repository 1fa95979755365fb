/- Written anew, smaller, by a program of our own out of our texts. No condition of our own. -/
import Derived.Test.YtplgghjdidmcfaaGreatDoorQ19
import Derived.Lib.Replace
import Derived.Lib.CountLaws
import Derived.Test.YtplgghjdidmcfaaGreatDoorQ06
import Derived.Test.YtplgghjdidmcfaaGreatDoorQ01
set_option maxRecDepth 100000
set_option maxHeartbeats 16000000
set_option linter.all false
namespace Go.Proofs.YtplgghjdidmcfaaGreatDoor
open Go.RowKit
theorem C0C{P:Prop}(h:P:=by
 have g4:((p[k].toNat:Int)==(s[i].toNat:Int))=true:=by rw[he];exact beq_self_eq_true _
 have HSK:=AA (HK.out.hit (by rw[HP.out];exact hkl) (by rw[←e1,←e2];exact he))
 clear e1 e2 he
 go_wp2_with fail
 go_quiet (fail)
 obtain⟨n1,hn1⟩:∃n1,n1=nq:=⟨_,rfl⟩
 rw[←hn1]
 clear hn1
 go_wp2_with fail
 go_quiet (fail)
 have HNX:=AA (HST.out _ HSK.out)
 have hb9:=A0d hb0 (m+n1+nq)
 have hown9:=A1a HOWN.out (m+n1+nq)
 by_cases hkp:(k+1)=p.size
 ·have g7:(((k+1):Int)==(p.size:Int))=true:=by rw[At];omega
  have g7':(((k:Int)+1)==(p.size:Int))=true:=by rw[At];omega
  have hle:=HSK.out.1.2.1
  have gx:(i:Int)+1-(p.size:Int)=((i+1-p.size:Nat):Int):=EE
  have HNY:Hid (A1m (L s) (L p) (i+2-p.size)=F++ [((i+1-p.size:Nat):Int)]):=by
   have h:=HNX.out
   rw[if_pos hkp] at h
   exact h
  clear HNX
  go_wp2_with (at_builtin;go_must (refine A0r rfl _ _ _ rfl w2.heap.size 3 i0 _ 1 8 Tryz.underlying91 hi0 hz0 hz1 hz2 rfl EE _ F.length (ints F) rfl (BE (w:=(wo.drewN (m+n1+nq))) hown9 _) ⟨(wo.drewN (m+n1+nq)).heap.size,0,none⟩ 1 1 [.int .i64 (((i+1-p.size:Nat):Int))] rfl rfl (BL _ _ _) (by simp[Value.oneCell']) EE EE (by have:=(hb9).size;simp at this⊢;omega) ?_);intro v6 w6 hown6 hg6 hb6;have hb6':=((hb9).alloc (hb9).size _).trans hb6)
  clear hg6 hb6
  go_roundw
  case rel=>
   refine⟨i+1,(k+1),by omega,by go_num,by go_num,HSK, ?_,hb6'⟩
   rw[show i+1+1-p.size=i+2-p.size by omega,HNY.out,AJ,Ah,A7j]
   exact hown6
  case measure=>simp[intOf];omega
 ·have g7:(((k+1):Int)==(p.size:Int))=false:=by rw[AH];omega
  have g7':(((k:Int)+1)==(p.size:Int))=false:=by rw[AH];omega
  have HNY:Hid (A1m (L s) (L p) (i+2-p.size)=F):=by
   have h:=HNX.out
   rw[if_neg hkp,Aq] at h
   exact h
  clear HNX
  go_wp2_with fail
  go_roundw
  case rel=>
   refine⟨i+1,(k+1),by omega,by go_num,by go_num,HSK, ?_,hb9⟩
   rw[show i+1+1-p.size=i+2-p.size by omega,HNY.out]
   exact hown9
  case measure=>simp[intOf];omega
 ):P:=h
theorem C0V{P:Prop}(h:P:=by
 have H1:=AA h1
 have H2:=AA h2
 clear h1 h2
 go_enter Tryz.func189,Tryz.ntmps189
 go_wp2_with fail
 refine(A1t s _).mono ?_
 rintro e w1 ⟨rfl,hb1⟩
 rw[H1.out]
 go_wp2_with fail
 refine(A1t p _).mono ?_
 rintro e w2 ⟨rfl,hb2⟩
 rw[H2.out]
 go_wp2_with fail
 go_ret
 rw[HE.out]
 exact⟨rfl,A0h hb1 hb2⟩
 ):P:=h
end Go.Proofs.YtplgghjdidmcfaaGreatDoor
namespace Go.Proofs.YtplgghjdidmcfaaGreatDoor
open Go.Lib
theorem B6c{s p:List UInt8}{n j:Nat}:j∈A4m s p n↔j<n∧hitB s p j=true:=by
 unfold A4m;rw[List.mem_filter,Bc]
end Go.Proofs.YtplgghjdidmcfaaGreatDoor
namespace Go.Proofs.YtplgghjdidmcfaaGreatDoor
open Go.RowKit
def A1Q(s p:ByteArray):Int:=if A0W s.size=0 then(if A0W p.size=0 then(if p.size=0 then 5 else 0) else A0W p.size) else A0W s.size
theorem A3R(n:Nat):(200<n∧A0W n=2)∨(n≤200∧A0W n=0):=by
 unfold A0W
 by_cases h:200<n
 ·rw[if_pos h];exact .inl ⟨h,rfl⟩
 ·rw[if_neg h];exact .inr ⟨by omega,rfl⟩
theorem A6I(s p:ByteArray)(w:World):Calls Tryz.prog 189 #[.string s,.string p] w fun e w'=>e= .returned (.int .i64 (A1Q s p))∧Below w.heap.size w w':=by
 rcases A3R s.size with⟨_,h1⟩|⟨_,h1⟩
 ·have HE:Hid (A1Q s p=2):=by unfold Hid A1Q;rw[h1];rfl
  have H1:=AA h1
  clear h1
  go_enter Tryz.func189,Tryz.ntmps189
  go_wp2_with fail
  refine(A1t s _).mono ?_
  rintro e w1 ⟨rfl,hb1⟩
  rw[H1.out]
  go_wp2_with fail
  go_ret
  rw[HE.out]
  exact⟨rfl,hb1⟩
 rcases A3R p.size with⟨_,h2⟩|⟨_,h2⟩
 ·have HE:Hid (A1Q s p=2):=by unfold Hid A1Q;rw[h1,h2];rfl
  exact C0V
 by_cases h0:p.size=0
 ·have HE:Hid (A1Q s p=5):=by unfold Hid A1Q;rw[h1,h2,h0];rfl
  have hpe:p.data.toList=[]:=AU (by rw[blen];exact h0)
  have g1:(p.toList==[])=true:=by rw[Ap];rw[hpe];rfl
  have g2:p.toList.isEmpty=true:=by rw[Ap];rw[hpe];rfl
  clear hpe h0
  exact C0V
 ·have HE:Hid (A1Q s p=0):=by unfold Hid A1Q;rw[h1,h2,if_pos rfl,if_pos rfl,if_neg h0]
  have hpe:p.data.toList≠ []:=fun h=>h0 (by rw[←blen,h];rfl)
  have g1:(p.toList==[])=false:=by rw[Ap,AH];exact hpe
  have g2:p.toList.isEmpty=false:=by rw[Ap,DL];exact hpe
  clear hpe h0
  exact C0V
def A1m(s p:List UInt8)(n:Nat):List Int:=(A4m s p n).map fun(k:Nat)=>(k:Int)
theorem A7i(s p:List UInt8)(n:Nat):(A1m s p n).length=(A4m s p n).length:=by simp[A1m]
theorem A7j(l:List Int)(x:Int):ints (l++ [x])=ints l++ [.int .i64 x]:=by simp[ints]
theorem B1Z(s p:ByteArray)(h:A1Q s p≠0)(w:World):Calls Tryz.prog 150 #[.string s,.string p] w fun e w'=>e= .returned (.tuple #[.slice none 0 0,.int .i64 (A1Q s p)])∧Below w.heap.size w w':=by
 have HC:=AA (A6I s p)
 generalize A1Q s p=E at*
 have g1:(E==0)=false:=by rw[AH];exact h
 have g2:(E !=0)=true:=by rw[bne,g1];rfl
 clear h
 go_enter Tryz.func150,Tryz.ntmps150
 go_wp2_with fail
 refine(HC.out _).mono ?_
 exact B9L
theorem B2a(s p:ByteArray)(hs:s.size≤200)(hp:p.size≤200)(hp0:0<p.size)(w:World):
 Calls Tryz.prog 150 #[.string s,.string p] w fun e w'=>∃v,e= .returned (.tuple #[v,.int .i64 0])∧w'.ownsRow w.heap.size 3 1 v (A1m (L s) (L p) (s.size+1-p.size)).length (ints (A1m (L s) (L p) (s.size+1-p.size)))∧Below w.heap.size w w':=by
 obtain⟨i0,hi0,hz0,hz1,hz2⟩:=info_parts A1E
 have HS:Hid ((L s).length=s.size):=A0e s
 have HP:Hid ((L p).length=p.size):=A0e p
 have HE:Hid (A1Q s p=0):=by
  unfold Hid A1Q A0W
  rw[if_neg (show¬200<s.size by omega),if_neg (show¬200<p.size by omega),if_pos rfl,if_pos rfl,if_neg EE]
 go_enter Tryz.func150,Tryz.ntmps150
 go_wp2_with fail
 refine(A6I s p _).mono ?_
 rintro e w1 ⟨rfl,hb1⟩
 rw[HE.out]
 go_wp2_with fail
 refine(A4h p hp _).mono ?_
 rintro e w2 ⟨gb,rfl,hbrow,hb2⟩
 have HB:=AA hbrow
 clear hbrow
 have hb12:=A0h hb1 hb2
 clear hb1 hb2
 go_wp2_with fail
 go_loopw [25,9,10] (fun iv ov kv wr=>∃i k:Nat,i≤s.size∧iv= .int .i64 (i:Int)∧kv= .int .i64 (k:Int)∧Hid (Sk (L s) (L p) i k)∧wr.ownsRow w2.heap.size 3 1 ov (A1m (L s) (L p) (i+1-p.size)).length (ints (A1m (L s) (L p) (i+1-p.size)))∧Below w2.heap.size w2 wr) (fun iv _ _ _=>s.size-(intOf iv).toNat)
 case atStart=>
  refine⟨0,0,AS _,rfl,rfl,AA (Sk.start _ _), ?_,AI _ _⟩
  rw[show 0+1-p.size=0 by omega]
  exact Ad _ _ _ _
 case round=>
  obtain⟨i,k,hi,rfl,rfl,HK,hown,hb⟩:=hrel
  by_cases hlt:i<s.size
  ·have g1:decide ((i:Int)<(s.size:Int))=true:=AG EE
   have g1':decide (i<s.size)=true:=AG hlt
   have hfl:=B0n (L s) (L p) (i+1-p.size)
   have HST:Hid (∀k',Sk (L s) (L p) (i+1) k'→A1m (L s) (L p) (i+2-p.size)=A1m (L s) (L p) (i+1-p.size)++if k'=p.size then [((i+1-p.size:Nat):Int)] else []):=fun k' hk'=>by
    have h:=B4w hk' (by rw[HS.out];exact hlt)
    rw[HP.out] at h
    unfold A1m
    rw[h,BM]
    congr 1
    split<;>rfl
   have hfl2:=A7i (L s) (L p) (i+1-p.size)
   obtain⟨F,hF⟩:∃F,A1m (L s) (L p) (i+1-p.size)=F:=⟨_,rfl⟩
   rw[hF] at hfl2 hown HST
   have hFb:F.length≤201:=EE
   clear hfl hfl2 hF
   have HOWN:=AA hown
   clear hown
   have hka:=HK.out.1.1
   rw[HP.out] at hka
   obtain⟨wo,hwo⟩:∃wo:World,wo=wr:=⟨_,rfl⟩
   subst hwo
   have hb0:=hb
   clear hb
   go_wp2_with fail
   go_loopw [10] (fun kv wr=>∃k m:Nat,kv= .int .i64 (k:Int)∧k≤p.size∧Hid (Ki (L s) (L p) i k)∧wr=wo.drewN m) (fun kv _=>(intOf kv).toNat)
   case atStart=>exact⟨k,0,rfl,hka,AA HK.out.ki,rfl⟩
   case round=>
    clear hka HK
    obtain⟨k,m,rfl,hk,HK,rfl⟩:=hrel
    have e2:=getB s i hlt
    by_cases hk0:0<k
    ·have g2:decide ((0:Int)<(k:Int))=true:=AG EE
     have g2':decide (0<k)=true:=AG hk0
     by_cases hkp0:k=p.size
     ·have g3:((k:Int)==(p.size:Int))=true:=by rw[At];omega
      have HKP:=AA hkp0
      clear hkp0
      obtain⟨j,hj⟩:∃j,j=k-1:=⟨_,rfl⟩
      have gj:(k:Int)-1=(j:Int):=EE
      have hjp:j<p.size:=EE
      have cb:=(HB.out.below hb0).at_ (k:=j) hjp
      rw[A8s _ _ _ hjp,show j+1=k by omega] at cb
      have HN:=AA (HK.out.next hk0 (.inl (by rw[HP.out];exact HKP.out)))
      have hfb:=A4c (L p) hk0
      generalize fb (L p) k=f at*
      clear e2 hj
      go_wp2_with fail
      go_quiet (fail)
      go_wp2_with fail
      go_roundw
      case rel=>exact⟨f,_,rfl,by omega,HN,rfl⟩
      case measure=>simp[intOf];omega
     ·have hkl:k<p.size:=EE
      have g3:((k:Int)==(p.size:Int))=false:=by rw[AH];omega
      have e1:=getB p k hkl
      by_cases he:p[k]=s[i]
      ·exact C0C
      ·have g4:((p[k].toNat:Int)==(s[i].toNat:Int))=false:=by
        exact B9J
       have HNEQ:Hid ((L p).getD k 0≠(L s).getD i 0):=by unfold Hid;rw[←e1,←e2];exact he
       clear e1 he
       obtain⟨j,hj⟩:∃j,j=k-1:=⟨_,rfl⟩
       have gj:(k:Int)-1=(j:Int):=EE
       have hjp:j<p.size:=EE
       have cb:=(HB.out.below hb0).at_ (k:=j) hjp
       rw[A8s _ _ _ hjp,show j+1=k by omega] at cb
       have HN:=AA (HK.out.next hk0 (.inr HNEQ.out))
       have hfb:=A4c (L p) hk0
       generalize fb (L p) k=f at*
       clear e2 hj
       go_wp2_with fail
       go_quiet (fail)
       go_wp2_with fail
       go_roundw
       case rel=>exact⟨f,_,rfl,by omega,HN,rfl⟩
       case measure=>simp[intOf];omega
    ·have g2:decide ((0:Int)<(k:Int))=false:=AC EE
     have g2':decide (0<k)=false:=AC hk0
     have hkl:k<p.size:=EE
     have e1:=getB p k hkl
     by_cases he:p[k]=s[i]
     ·exact C0C
     ·have g4:((p[k].toNat:Int)==(s[i].toNat:Int))=false:=by
       exact B9J
      have HSK:Hid (Sk (L s) (L p) (i+1) k):=by
       have hk00:k=0:=EE
       have h:=HK.out
       have he':(L p).getD k 0≠(L s).getD i 0:=by rw[←e1,←e2];exact he
       rw[hk00] at h he'⊢
       exact h.miss he'
      clear e1 e2 he
      go_wp2_with fail
      go_quiet (fail)
      obtain⟨n1,hn1⟩:∃n1,n1=nq:=⟨_,rfl⟩
      rw[←hn1]
      clear hn1
      go_wp2_with fail
      go_quiet (fail)
      have HNX:=AA (HST.out _ HSK.out)
      have hb9:=A0d hb0 (m+n1+nq)
      have hown9:=A1a HOWN.out (m+n1+nq)
      have hkp:¬k=p.size:=EE
      have g7:((k:Int)==(p.size:Int))=false:=by rw[AH];omega
      have g7':((k:Int)==(p.size:Int))=false:=by rw[AH];omega
      have HNY:Hid (A1m (L s) (L p) (i+2-p.size)=F):=by
       have h:=HNX.out
       rw[if_neg hkp,Aq] at h
       exact h
      clear HNX
      go_wp2_with fail
      go_roundw
      case rel=>
       refine⟨i+1,k,by omega,by go_num,by go_num,HSK, ?_,hb9⟩
       rw[show i+1+1-p.size=i+2-p.size by omega,HNY.out]
       exact hown9
      case measure=>simp[intOf];omega
  ·obtain rfl:i=s.size:=EE
   have g1:decide ((s.size:Int)<(s.size:Int))=false:=AC EE
   have g1':decide (s.size<s.size)=false:=AC hlt
   go_wp2_with fail
   go_ret2
   exact⟨_,rfl,A3a hown (by have:=hb12.size;omega),A0h hb12 hb⟩
end Go.Proofs.YtplgghjdidmcfaaGreatDoor
namespace Go.Proofs.YtplgghjdidmcfaaGreatDoor
def rotT(s:List UInt8)(i:Nat):List UInt8:=s.drop i++s.take i
theorem B2b{s:List UInt8}{i:Nat}(h:i≤s.length):(rotT s i).length=s.length:=by
 unfold rotT;rw[AJ,AZ,AV];omega
theorem B8e{s:List UInt8}{i j:Nat}(hi:i<s.length)(hj:j<s.length):(rotT s i).getD j 0=s.getD ((i+j)%s.length) 0:=by
 unfold rotT
 rw[AK,AK]
 congr 1
 rcases CT (i+j) s.length with h|h
 ·rw[Bk h,Bi (by rw[AZ];omega),BU]
 ·have e:(i+j)%s.length=i+j-s.length:=by
   rw[Cr h,Bk EE]
  rw[e,BH (by rw[AZ];omega),AZ,Bq,if_pos EE]
  congr 1;omega
def ltT(s:List UInt8)(x y:Nat):Prop:=rotT s x<rotT s y∨(rotT s x=rotT s y∧x<y)
instance (s:List UInt8) (x y:Nat):Decidable (ltT s x y):=inferInstanceAs (Decidable (_∨_))
theorem A8M(s:List UInt8)(x:Nat):¬ltT s x x:=by
 rintro(h|⟨_,h⟩)
 ·exact Cz _ h
 ·omega
theorem A5H{s:List UInt8}{x y z:Nat}(h1:ltT s x y)(h2:ltT s y z):ltT s x z:=by
 rcases h1 with h1|⟨e1,h1⟩
 ·rcases h2 with h2|⟨e2,h2⟩
  ·exact .inl (List.lt_trans h1 h2)
  ·rw[e2] at h1;exact .inl h1
 ·rcases h2 with h2|⟨e2,h2⟩
  ·rw[←e1] at h2;exact .inl h2
  ·exact .inr ⟨e1.trans e2,by omega⟩
theorem A9F{s:List UInt8}{x y:Nat}(h1:¬ltT s x y)(h2:¬ltT s y x):x=y:=by
 have e:rotT s x=rotT s y:=by
  refine List.le_antisymm (fun h=>h2 (.inl h)) (fun h=>h1 (.inl h))
 rcases De x y with h|h|h
 ·exact absurd (.inr ⟨e,h⟩) h1
 ·exact h
 ·exact absurd (.inr ⟨e.symm,h⟩) h2
def A0R(s:List UInt8):List Nat:=(List.range s.length).mergeSort fun x y=>decide (¬ltT s y x)
theorem A2H(s:List UInt8):(A0R s).Perm (List.range s.length):=List.mergeSort_perm _ _
theorem B8f(s:List UInt8):(A0R s).Pairwise fun x y=>¬ltT s y x:=by
 have h:=List.pairwise_mergeSort (le:=fun(x y:Nat)=>decide (¬ltT s y x)) (fun a b c h1 h2=>by
  rw[As] at*
  intro h3
  by_cases h4:ltT s b c
  ·exact h1 (A5H h4 h3)
  ·have:=A9F h4 h2
   subst this
   exact h1 h3) (fun a b=>by
  rw[CB,As,As]
  by_cases h:ltT s b a
  ·right;intro h2;exact A8M _ _ (A5H h h2)
  ·exact .inl h) (List.range s.length)
 exact h.imp fun h=>by rwa[As] at h
theorem A1H(s:List UInt8):(A0R s).length=s.length:=by rw[(A2H s).length_eq,List.length_range]
theorem B2c{s:List UInt8}{k:Nat}(h:k<s.length):(A0R s).getD k 0<s.length:=by
 rw[AK,AL (by rw[A1H];exact h)]
 exact Bc.1 ((A2H s).mem_iff.1 (Ac _))
def A4D(s:List UInt8)(i:Nat):UInt8:=s.getD ((i+s.length-1)%s.length) 0
def A1p(s:List UInt8):List UInt8:=(A0R s).map (A4D s)
def A1g(s:List UInt8):Nat:=if s=[] then 0 else(A0R s).idxOf 0
theorem A3Z(s:List UInt8):(A1p s).length=s.length:=by rw[A1p,AW,A1H]
def ltB(t:List UInt8)(x y:Nat):Prop:=t.getD x 0<t.getD y 0∨(t.getD x 0=t.getD y 0∧x<y)
instance (t:List UInt8) (x y:Nat):Decidable (ltB t x y):=inferInstanceAs (Decidable (_∨_))
theorem B6d{s:List UInt8}(h:s≠ []):A1g s<s.length∧(A0R s).getD (A1g s) 0=0:=by
 unfold A1g
 rw[if_neg h]
 have hm:0∈A0R s:=(A2H s).mem_iff.2 (Bc.2 (BO.2 h))
 have hl:=DC hm
 refine⟨by rw[A1H] at hl;exact hl, ?_⟩
 rw[AK,AL hl,List.getElem_idxOf];rfl
end Go.Proofs.YtplgghjdidmcfaaGreatDoor
