/- Written anew, smaller, by a program of our own out of our texts. No condition of our own. -/
import Derived.Test.YtplgghjdidmcfaaGreatDoorQ16
import Derived.Test.YtplgghjdidmcfaaGreatDoorQ06
import Derived.Test.YtplgghjdidmcfaaGreatDoorQ14
import Derived.Test.YtplgghjdidmcfaaGreatDoorQ12
set_option maxRecDepth 100000
set_option maxHeartbeats 16000000
set_option linter.all false
namespace Go.Proofs.YtplgghjdidmcfaaGreatDoor
open Go.RowKit
theorem C0p{P:Prop}(h:P:=by
 have g2:decide ((m:Int)<(ps.length:Int)+1)=true:=AG EE
 by_cases hmp:m<ps.length
 ·have g3:decide (m<ps.length)=true:=AG hmp
  obtain⟨h3,h4,h5,h6,h7,h8⟩:=B3G (HD.out.ms EE).1 hmp
  obtain⟨ad,rfl,cx⟩:=B3H fsts Prod.fst (fun _=>rfl) (HX.out.below hbr) hmp
  obtain⟨ad',rfl,cy⟩:=B3H snds Prod.snd (fun _=>rfl) (HY.out.below hbr) hmp
  have HN:Hid (∀q',q'=q++(if i<(ps[m]).1∨k<(ps[m]).2 then [⟨i,(ps[m]).1-i,((L t).drop k).take ((ps[m]).2-k)⟩] else [])→DfAt (L s) (L t) ps (m+1) ((ps[m]).1+1) ((ps[m]).2+1) q'):=
   fun q' hq=>HD.out.next_ hmp HE.out (by rw[HLA.out];exact hs) (by rw[HLB.out];exact ht) hq
  rw[HLA.out] at h5
  rw[HLB.out] at h6
  clear h7 h8
  generalize(ps[m]).1=x at*
  generalize(ps[m]).2=y at*
  by_cases hia:i<x
  ·have e1:decide (i<x)=true:=AG hia
   have HC:Hid (i<x∨k<y):= .inl hia
   go_wp2_with fail
   go_quiet (fail)
   have hown2:=(A1a hown nq)
   go_wp2_with (at_builtin;go_must (refine A0r rfl _ _ _ rfl w2.heap.size 95 i0 _ 3 32 Tryz.underlying30 hi0 hz0 hz1 hz2 rfl EE _ q.length (A0f q) rfl (hown2.alloc _) ⟨_,0,none⟩ 1 1 [.int .i64 (i:Int),.int .i64 ((x:Int)-(i:Int)),.string (t.extract k y)] rfl rfl (A3u _ _ _ _ _) (by simp[Value.oneCell']) EE EE (by simp;omega) ?_);intro v6 w6 hown6 hg6 hb6)
   have hB6:Below w2.heap.size w2 w6:=(((A0d hbr nq)).alloc (by simp;omega) _).trans hb6
   go_roundw
   case rel=>
    exact C2B
   case measure=>simp[intOf];omega
  ·have e1:decide (i<x)=false:=AC hia
   by_cases hkb:k<y
   ·have e2:decide (k<y)=true:=AG hkb
    have HC:Hid (i<x∨k<y):= .inr hkb
    go_wp2_with fail
    go_quiet (fail)
    have hown2:=(A1a hown nq)
    go_wp2_with (at_builtin;go_must (refine A0r rfl _ _ _ rfl w2.heap.size 95 i0 _ 3 32 Tryz.underlying30 hi0 hz0 hz1 hz2 rfl EE _ q.length (A0f q) rfl (hown2.alloc _) ⟨_,0,none⟩ 1 1 [.int .i64 (i:Int),.int .i64 ((x:Int)-(i:Int)),.string (t.extract k y)] rfl rfl (A3u _ _ _ _ _) (by simp[Value.oneCell']) EE EE (by simp;omega) ?_);intro v6 w6 hown6 hg6 hb6)
    have hB6:Below w2.heap.size w2 w6:=(((A0d hbr nq)).alloc (by simp;omega) _).trans hb6
    go_roundw
    case rel=>
     exact C2B
    case measure=>simp[intOf];omega
   ·have e2:decide (k<y)=false:=AC hkb
    have HC:Hid (¬(i<x∨k<y)):=by unfold Hid;omega
    go_wp2_with fail
    go_quiet (fail)
    go_wp2_with fail
    go_roundw
    case rel=>exact⟨m+1,x+1,y+1,q,by omega,by go_num,by go_num,by go_num,HN.out _ (by rw[if_neg HC.out,Aq]),(A1a hown nq),(A0d hbr nq)⟩
    case measure=>simp[intOf];omega
 ·have g3:decide (m<ps.length)=false:=AC hmp
  obtain⟨h3,h4,h8⟩:=B5Z (HD.out.ms EE).1 hmp
  have HN:Hid (∀q',q'=q++(if i<s.size∨k<t.size then [⟨i,s.size-i,((L t).drop k).take (t.size-k)⟩] else [])→DfAt (L s) (L t) ps (m+1) (s.size+1) (t.size+1) q'):=
   fun q' hq=>by
    have:=HD.out.end_ (q':=q') EE HE.out (by rw[HLA.out];exact hs) (by rw[HLB.out];exact ht) (by rw[HLA.out,HLB.out];exact hq)
    rw[HLA.out,HLB.out] at this
    exact this
  rw[HLA.out] at h3
  rw[HLB.out] at h4
  clear h8
  by_cases hia:i<s.size
  ·have e1:decide (i<s.size)=true:=AG hia
   have HC:Hid (i<s.size∨k<t.size):= .inl hia
   have hown2:=hown
   go_wp2_with (at_builtin;go_must (refine A0r rfl _ _ _ rfl w2.heap.size 95 i0 _ 3 32 Tryz.underlying30 hi0 hz0 hz1 hz2 rfl EE _ q.length (A0f q) rfl (hown2.alloc _) ⟨_,0,none⟩ 1 1 [.int .i64 (i:Int),.int .i64 ((s.size:Int)-(i:Int)),.string (t.extract k t.size)] rfl rfl (A3u _ _ _ _ _) (by simp[Value.oneCell']) EE EE (by simp;omega) ?_);intro v6 w6 hown6 hg6 hb6)
   have hB6:Below w2.heap.size w2 w6:=((hbr).alloc hbs _).trans hb6
   go_roundw
   case rel=>
    exact C2z
   case measure=>simp[intOf];omega
  ·have e1:decide (i<s.size)=false:=AC hia
   by_cases hkb:k<t.size
   ·have e2:decide (k<t.size)=true:=AG hkb
    have HC:Hid (i<s.size∨k<t.size):= .inr hkb
    have hown2:=hown
    go_wp2_with (at_builtin;go_must (refine A0r rfl _ _ _ rfl w2.heap.size 95 i0 _ 3 32 Tryz.underlying30 hi0 hz0 hz1 hz2 rfl EE _ q.length (A0f q) rfl (hown2.alloc _) ⟨_,0,none⟩ 1 1 [.int .i64 (i:Int),.int .i64 ((s.size:Int)-(i:Int)),.string (t.extract k t.size)] rfl rfl (A3u _ _ _ _ _) (by simp[Value.oneCell']) EE EE (by simp;omega) ?_);intro v6 w6 hown6 hg6 hb6)
    have hB6:Below w2.heap.size w2 w6:=((hbr).alloc hbs _).trans hb6
    go_roundw
    case rel=>
     exact C2z
    case measure=>simp[intOf];omega
   ·have e2:decide (k<t.size)=false:=AC hkb
    have HC:Hid (¬(i<s.size∨k<t.size)):=by unfold Hid;omega
    go_wp2_with fail
    go_wp2_with fail
    go_roundw
    case rel=>exact⟨m+1,s.size+1,t.size+1,q,by omega,by go_num,by go_num,by go_num,HN.out _ (by rw[if_neg HC.out,Aq]),hown,hbr⟩
    case measure=>simp[intOf];omega
 ):P:=h
theorem C1k{P:Prop}(h:P:=by
 rw[AN]
 refine HP.out.on _ (.cons i k i k r (AD _) (AD _) (by rw[A0e];exact hil) (by rw[A0e];exact hkl) ?_ hr)
 rw[AL (by rw[A0e];exact hil),AL (by rw[A0e];exact hkl)]
 exact congrArg some he
 ):P:=h
theorem C1N{P:Prop}(h:P:=by
 have h1:Below w2.heap.size w2 w6:=((A0d hbr nq).alloc (by simp;omega) _).trans hb6
 exact(h1.alloc h1.size _).trans hb7
 ):P:=h
theorem C1S{P:Prop}(h:P:=by
 have:=HP.out.on [] (.nil i k (by rw[A0e];exact hi) (by rw[A0e];exact hk))
 rw[Aq] at this;exact this
 ):P:=h
theorem C1U{P:Prop}(h:P:=by
 rcases CT k t.size with h|h
 ·exact h
 ·obtain rfl:k=t.size:=EE
  rw[A8H] at hz;omega
 ):P:=h
theorem C1V{P:Prop}(h:P:=by
 rcases CT i s.size with h|h
 ·exact h
 ·obtain rfl:i=s.size:=EE
  rw[B0i] at hz;omega
 ):P:=h
theorem C2z{P:Prop}(h:P:=by
 refine⟨m+1,s.size+1,t.size+1,q++ [⟨i,(s.size:Nat)-(i:Nat),((L t).drop k).take (t.size-k)⟩],by omega,by go_num,by go_num,by go_num,HN.out _ (by rw[if_pos HC.out]), ?_,hB6⟩
 rw[AJ,A3z]
 have e1:A0f [⟨(i:Int),(s.size:Nat)-(i:Nat),((L t).drop k).take (t.size-k)⟩]=[.int .i64 (i:Int),.int .i64 ((s.size:Int)-(i:Int)),.string (t.extract k t.size)]:=by
  rw[A2E];rfl
 rw[e1];exact hown6
 ):P:=h
theorem C2B{P:Prop}(h:P:=by
 refine⟨m+1,x+1,y+1,q++ [⟨i,(x:Nat)-(i:Nat),((L t).drop k).take (y-k)⟩],by omega,by go_num,by go_num,by go_num,HN.out _ (by rw[if_pos HC.out]), ?_,hB6⟩
 rw[AJ,A3z]
 have e1:A0f [⟨(i:Int),(x:Nat)-(i:Nat),((L t).drop k).take (y-k)⟩]=[.int .i64 (i:Int),.int .i64 ((x:Int)-(i:Int)),.string (t.extract k y)]:=by
  rw[A2E];rfl
 rw[e1];exact hown6
 ):P:=h
theorem B0N(s t:ByteArray)(h:200<s.size∨200<t.size)(w:World):
 Calls Tryz.prog 70 #[.string s,.string t] w fun e w'=>e= .returned (.tuple #[.int .i64 0,.int .i64 2])∧Below w.heap.size w w':=by
 have HV:Hid (A1O [s,t]=2):=by unfold Hid;rw[A6r,if_pos h]
 clear h
 go_enter Tryz.func70,Tryz.ntmps70
 exact C0c
theorem B1R(s t:ByteArray)(hs:s.size≤200)(ht:t.size≤200)(w:World):
 Calls Tryz.prog 70 #[.string s,.string t] w fun e w'=>e= .returned (.tuple #[.int .i64 (lcs (L s) (L t):Nat),.int .i64 0])∧Below w.heap.size w w':=by
 have HV:Hid (A1O [s,t]=0):=by unfold Hid;rw[A6r,if_neg EE]
 go_enter Tryz.func70,Tryz.ntmps70
 go_wp2_with fail
 refine(A3f s t _).mono ?_
 rintro e w1 ⟨rfl,hb1⟩
 rw[HV.out]
 go_wp2_with fail
 refine(A7g s t hs ht _).mono ?_
 rintro e w2 ⟨G,R,rfl,hT,hb2⟩
 have hb:=A0h hb1 hb2
 obtain⟨c0,c1⟩:=hT.cells (AS _) (AS _)
 rw[A7f] at c1
 clear hT
 go_wp2_with fail
 go_ret2
 exact⟨rfl,hb⟩
theorem Ms.low{a b:List UInt8}{i k i' k':Nat}{r:List (Nat×Nat)}(h:Ms a b i k r)(hi:i'≤i)(hk:k'≤k):Ms a b i' k' r:=by
 cases h with
 |nil _ _ h1 h2=>exact .nil _ _ EE EE
 |cons _ _ x y r h1 h2 h3 h4 h5 h6=>exact .cons _ _ x y r EE EE h3 h4 h5 h6
def fsts(l:List (Nat×Nat)):List Int:=l.map fun p=>(p.1:Int)
def snds(l:List (Nat×Nat)):List Int:=l.map fun p=>(p.2:Int)
theorem B0j(l:List (Nat×Nat))(i k:Nat):ints (fsts l)++ [.int .i64 (i:Int)]=ints (fsts (l++ [(i,k)])):=by simp[fsts,ints]
theorem B0k(l:List (Nat×Nat))(i k:Nat):ints (snds l)++ [.int .i64 (k:Int)]=ints (snds (l++ [(i,k)])):=by simp[snds,ints]
structure PlIn (s t:ByteArray) (base:Nat) (wr:World) (vx vy:Value) (ps:List (Nat×Nat)) (i k:Nat):Prop where
 xs:wr.ownsRow base 3 1 vx ps.length (ints (fsts ps))
 ys:wr.ownsRow base 3 1 vy ps.length (ints (snds ps))
 ap:Apart vx vy
 on:∀r,Ms (L s) (L t) i k r→Ms (L s) (L t) 0 0 (ps++r)
 cnt:ps.length+lcsD s t i k=lcs (L s) (L t)
 le:i≤s.size∧k≤t.size
theorem A9C(s t:ByteArray)(hs:s.size≤200)(ht:t.size≤200)(w:World):
 Calls Tryz.prog 39 #[.string s,.string t] w fun e w'=>∃vx vy ps,e= .returned (.tuple #[vx,vy,.int .i64 0])∧Ms (L s) (L t) 0 0 ps∧ps.length=lcs (L s) (L t)∧
  w'.ownsRow w.heap.size 3 1 vx ps.length (ints (fsts ps))∧w'.ownsRow w.heap.size 3 1 vy ps.length (ints (snds ps))∧Below w.heap.size w w':=by
 obtain⟨i0,hi0,hz0,hz1,hz2⟩:=info_parts A1E
 have HV:Hid (A1O [s,t]=0):=by unfold Hid;rw[A6r,if_neg EE]
 have HQ:=AA (A6e (L s) (L t))
 go_enter Tryz.func39,Tryz.ntmps39
 go_wp2_with fail
 refine(A3f s t _).mono ?_
 rintro e w1 ⟨rfl,hb1⟩
 rw[HV.out]
 go_wp2_with fail
 refine(A7g s t hs ht _).mono ?_
 rintro e w2 ⟨G,R,rfl,hT,hb2⟩
 have hb:=A0h hb1 hb2
 have HT:=AA hT
 have H0:Hid (PlIn s t w2.heap.size w2 (.slice none 0 0) (.slice none 0 0) [] 0 0):=
  ⟨Ad _ _ _ _,Ad _ _ _ _,Apart.none_left _,fun r h=>h,by simp[A7f],AS _,AS _⟩
 clear hT hb1 hb2
 generalize w1.heap.size=gT at*
 go_wp2_with fail
 go_loopw [9,10,11,12] (fun x y i k wr=>∃(ps:List (Nat×Nat)) (i' k':Nat),i= .int .i64 i'∧k= .int .i64 k'∧PlIn s t w2.heap.size wr x y ps i' k'∧Below w2.heap.size w2 wr) (fun _ _ i k _=>s.size-(intOf i).toNat+(t.size-(intOf k).toNat))
 case atStart=>exact⟨[],0,0,rfl,rfl,H0.out,AI _ _⟩
 case round=>
  clear H0
  obtain⟨ps,i,k,rfl,rfl,hP,hbr⟩:=hrel
  have HP:=AA hP
  obtain⟨hi,hk⟩:=hP.le
  obtain⟨c0,c1⟩:=(HT.out.below hbr).cells hi hk
  have hbs:=hbr.size
  clear hP
  have hpl:ps.length≤200:=by
   have h1:=HP.out.cnt
   have h2:=HQ.out.1
   rw[A0e] at h2
   omega
  by_cases hz:0<lcsD s t i k
  ·have g1:decide (0<lcsD s t i k)=true:=AG hz
   have hil:i<s.size:=by
    exact C1V
   have hkl:k<t.size:=by
    exact C1U
   have HS:=AA (A7e s t i k hil hkl)
   by_cases he:s[i]=t[k]
   ·have g3:((s[i].toNat:Int)==(t[k].toNat:Int))=true:=by rw[he];simp
    have hse:=HS.out.trans (if_pos he)
    have HON:Hid (∀r,Ms (L s) (L t) (i+1) (k+1) r→Ms (L s) (L t) 0 0 ((ps++ [(i,k)])++r)):=fun r hr=>by
     exact C1k
    have HC:Hid ((ps++ [(i,k)]).length+lcsD s t (i+1) (k+1)=lcs (L s) (L t)):=by
     unfold Hid;have:=HP.out.cnt;rw[AJ,Ah];omega
    have ownx:=HP.out.xs
    have owny:=AA HP.out.ys
    have HA:=AA HP.out.ap
    clear he HS HP hse hz
    generalize lcsD s t i k=z0 at*
    go_wp2_with fail
    go_quiet (fail)
    have ownx2:=A1a ownx nq
    have owny2:=A1a owny.out nq
    have tok1:True:=trivial
    go_wp2_with (first
     |(at_builtin;have _t:=tok1;go_must (refine A3j rfl _ _ _ rfl w2.heap.size 3 i0 _ 1 8 Tryz.underlying91 hi0 hz0 hz1 hz2 rfl EE _ ps.length (ints (fsts ps)) rfl (ownx2.alloc _) ⟨_,0,none⟩ 1 1 [.int .i64 (i:Int)] rfl rfl (BL _ _ _) (by simp[Value.oneCell']) EE EE (by simp;omega) ?_);intro v6 w6 hown6 hg6 hb6 ha6;have owny6:=A5E (owny2.alloc _) HA.out.comm hg6;have hap6:=A5F (owny2.alloc _) HA.out.comm ha6;clear tok1 ownx2 owny2)
     |(at_builtin;go_must (refine A3j rfl _ _ _ rfl w2.heap.size 3 i0 _ 1 8 Tryz.underlying91 hi0 hz0 hz1 hz2 rfl EE _ ps.length (ints (snds ps)) rfl (owny6.alloc _) ⟨_,0,none⟩ 1 1 [.int .i64 (k:Int)] rfl rfl (BL _ _ _) (by simp[Value.oneCell']) EE EE (by have:=hb6.size;simp at this⊢;omega) ?_);intro v7 w7 hown7 hg7 hb7 ha7;have ownx7:=A5E (hown6.alloc _) hap6.comm hg7;have hap7:=A5F (hown6.alloc _) hap6.comm ha7))
    have hB7:Below w2.heap.size w2 w7:=by
     exact C1N
    go_roundw
    case rel=>exact⟨ps++ [(i,k)],i+1,k+1,by go_num,by go_num,⟨by rw[←B0j,AJ];exact ownx7,by rw[←B0k,AJ];exact hown7,hap7,HON.out,HC.out,by omega,by omega⟩,hB7⟩
    case measure=>simp[intOf];omega
   ·have g3:((s[i].toNat:Int)==(t[k].toNat:Int))=false:=by
     exact B9J
    have hse:=HS.out.trans (if_neg he)
    obtain⟨d0,d1⟩:=(HT.out.below hbr).cells (i:=i+1) (k:=k) EE EE
    obtain⟨d2,d3⟩:=(HT.out.below hbr).cells (i:=i) (k:=k+1) EE EE
    have HON1:Hid (∀r,Ms (L s) (L t) (i+1) k r→Ms (L s) (L t) 0 0 (ps++r)):=fun r hr=>HP.out.on r (hr.low EE (AD _))
    have HON2:Hid (∀r,Ms (L s) (L t) i (k+1) r→Ms (L s) (L t) 0 0 (ps++r)):=fun r hr=>HP.out.on r (hr.low (AD _) EE)
    by_cases hge:lcsD s t i (k+1)≤lcsD s t (i+1) k
    ·have HC:Hid (ps.length+lcsD s t (i+1) k=lcs (L s) (L t)):=by
      unfold Hid;have:=HP.out.cnt;omega
     have g4:decide (lcsD s t i (k+1)≤lcsD s t (i+1) k)=true:=AG hge
     clear he HS hse hz hge
     generalize lcsD s t i k=z0 at*
     generalize hz1':lcsD s t (i+1) k=z1 at*
     generalize lcsD s t i (k+1)=z2 at*
     go_wp2_with fail
     go_quiet (fail)
     go_wp2_with fail
     go_quiet (fail)
     go_wp2_with fail
     go_roundw
     case rel=>exact⟨ps,i+1,k,by go_num,rfl,⟨A1a HP.out.xs _,A1a HP.out.ys _,HP.out.ap,HON1.out,by rw[hz1'];exact HC.out,by omega,hk⟩,Ds⟩
     case measure=>simp[intOf];omega
    ·have HC:Hid (ps.length+lcsD s t i (k+1)=lcs (L s) (L t)):=by
      unfold Hid;have:=HP.out.cnt;omega
     have g4:decide (lcsD s t i (k+1)≤lcsD s t (i+1) k)=false:=AC hge
     clear he HS hse hz hge
     generalize lcsD s t i k=z0 at*
     generalize lcsD s t (i+1) k=z1 at*
     generalize hz2':lcsD s t i (k+1)=z2 at*
     go_wp2_with fail
     go_quiet (fail)
     go_wp2_with fail
     go_quiet (fail)
     go_wp2_with fail
     go_roundw
     case rel=>exact⟨ps,i,k+1,rfl,by go_num,⟨A1a HP.out.xs _,A1a HP.out.ys _,HP.out.ap,HON2.out,by rw[hz2'];exact HC.out,hi,by omega⟩,Ds⟩
     case measure=>simp[intOf];omega
  ·have g1:decide (0<lcsD s t i k)=false:=AC hz
   have HC:Hid (ps.length=lcs (L s) (L t)):=by
    unfold Hid;have:=HP.out.cnt;omega
   have HM:Hid (Ms (L s) (L t) 0 0 ps):=by
    exact C1S
   clear hz
   generalize lcsD s t i k=z0 at*
   go_wp2_with fail
   go_ret3
   exact⟨_,_,ps,rfl,HM.out,HC.out,A3a HP.out.xs hb.size,A3a HP.out.ys hb.size,A0h hb hbr⟩
def psF(s t:ByteArray):Nat→Nat→Nat→List (Nat×Nat)
 |0,_,_=> []
 |f+1,i,k=>if 0<lcsD s t i k then(if(L s)[i]? =(L t)[k]? then(i,k)::psF s t f (i+1) (k+1) else if lcsD s t i (k+1)≤lcsD s t (i+1) k then psF s t f (i+1) k else psF s t f i (k+1)) else []
def A5e(s t:ByteArray):List (Nat×Nat):=psF s t (s.size+t.size+1) 0 0
def DetP(s t:ByteArray)(ps:List (Nat×Nat))(i k:Nat):Prop:=∃f,s.size-i+(t.size-k)<f∧ps++psF s t f i k=A5e s t
theorem DetP.start(s t:ByteArray):DetP s t [] 0 0:=⟨s.size+t.size+1,by omega,rfl⟩
theorem DetP.both{s t:ByteArray}{ps:List (Nat×Nat)}{i k:Nat}(h:DetP s t ps i k)(hz:0<lcsD s t i k)(hi:i<s.size)(hk:k<t.size)(he:s[i]=t[k]):DetP s t (ps++ [(i,k)]) (i+1) (k+1):=by
 obtain⟨f,hf,e⟩:=h
 obtain⟨f,rfl⟩:∃g,f=g+1:=⟨f-1,by omega⟩
 have hq:(L s)[i]? =(L t)[k]? :=by
  rw[AL (by rw[A0e];exact hi),AL (by rw[A0e];exact hk)]
  exact congrArg some he
 rw[psF,if_pos hz,if_pos hq] at e
 exact⟨f,by omega,by rw[AN];exact e⟩
theorem B3F{s t:ByteArray}{i k:Nat}(hi:i<s.size)(hk:k<t.size)(he:s[i]≠t[k]):(L s)[i]?≠(L t)[k]? :=by
 rw[AL (by rw[A0e];exact hi),AL (by rw[A0e];exact hk)]
 exact fun h=>he (Aw h)
theorem DetP.down{s t:ByteArray}{ps:List (Nat×Nat)}{i k:Nat}(h:DetP s t ps i k)(hz:0<lcsD s t i k)(hi:i<s.size)(hk:k<t.size)(he:s[i]≠t[k])(hge:lcsD s t i (k+1)≤lcsD s t (i+1) k):DetP s t ps (i+1) k:=by
 obtain⟨f,hf,e⟩:=h
 obtain⟨f,rfl⟩:∃g,f=g+1:=⟨f-1,by omega⟩
 rw[psF,if_pos hz,if_neg (B3F hi hk he),if_pos hge] at e
 exact⟨f,by omega,e⟩
theorem DetP.right{s t:ByteArray}{ps:List (Nat×Nat)}{i k:Nat}(h:DetP s t ps i k)(hz:0<lcsD s t i k)(hi:i<s.size)(hk:k<t.size)(he:s[i]≠t[k])(hge:¬lcsD s t i (k+1)≤lcsD s t (i+1) k):DetP s t ps i (k+1):=by
 obtain⟨f,hf,e⟩:=h
 obtain⟨f,rfl⟩:∃g,f=g+1:=⟨f-1,by omega⟩
 rw[psF,if_pos hz,if_neg (B3F hi hk he),if_neg hge] at e
 exact⟨f,by omega,e⟩
theorem DetP.end_{s t:ByteArray}{ps:List (Nat×Nat)}{i k:Nat}(h:DetP s t ps i k)(hz:¬0<lcsD s t i k):ps=A5e s t:=by
 obtain⟨f,hf,e⟩:=h
 obtain⟨f,rfl⟩:∃g,f=g+1:=⟨f-1,by omega⟩
 rw[psF,if_neg hz,Aq] at e
 exact e
structure PlQ (s t:ByteArray) (base:Nat) (wr:World) (vx vy:Value) (ps:List (Nat×Nat)) (i k:Nat):Prop where
 xs:wr.ownsRow base 3 1 vx ps.length (ints (fsts ps))
 ys:wr.ownsRow base 3 1 vy ps.length (ints (snds ps))
 ap:Apart vx vy
 on:∀r,Ms (L s) (L t) i k r→Ms (L s) (L t) 0 0 (ps++r)
 cnt:ps.length+lcsD s t i k=lcs (L s) (L t)
 le:i≤s.size∧k≤t.size
 det:DetP s t ps i k
theorem A8I(s t:ByteArray)(hs:s.size≤200)(ht:t.size≤200)(w:World):
 Calls Tryz.prog 39 #[.string s,.string t] w fun e w'=>∃vx vy ps,e= .returned (.tuple #[vx,vy,.int .i64 0])∧Ms (L s) (L t) 0 0 ps∧ps.length=lcs (L s) (L t)∧ps=A5e s t∧
  w'.ownsRow w.heap.size 3 1 vx ps.length (ints (fsts ps))∧w'.ownsRow w.heap.size 3 1 vy ps.length (ints (snds ps))∧Below w.heap.size w w':=by
 obtain⟨i0,hi0,hz0,hz1,hz2⟩:=info_parts A1E
 have HV:Hid (A1O [s,t]=0):=by unfold Hid;rw[A6r,if_neg EE]
 have HQ:=AA (A6e (L s) (L t))
 go_enter Tryz.func39,Tryz.ntmps39
 go_wp2_with fail
 refine(A3f s t _).mono ?_
 rintro e w1 ⟨rfl,hb1⟩
 rw[HV.out]
 go_wp2_with fail
 refine(A7g s t hs ht _).mono ?_
 rintro e w2 ⟨G,R,rfl,hT,hb2⟩
 have hb:=A0h hb1 hb2
 have HT:=AA hT
 have H0:Hid (PlQ s t w2.heap.size w2 (.slice none 0 0) (.slice none 0 0) [] 0 0):=
  ⟨Ad _ _ _ _,Ad _ _ _ _,Apart.none_left _,fun r h=>h,by simp[A7f],⟨AS _,AS _⟩,DetP.start s t⟩
 clear hT hb1 hb2
 generalize w1.heap.size=gT at*
 go_wp2_with fail
 go_loopw [9,10,11,12] (fun x y i k wr=>∃(ps:List (Nat×Nat)) (i' k':Nat),i= .int .i64 i'∧k= .int .i64 k'∧PlQ s t w2.heap.size wr x y ps i' k'∧Below w2.heap.size w2 wr) (fun _ _ i k _=>s.size-(intOf i).toNat+(t.size-(intOf k).toNat))
 case atStart=>exact⟨[],0,0,rfl,rfl,H0.out,AI _ _⟩
 case round=>
  clear H0
  obtain⟨ps,i,k,rfl,rfl,hP,hbr⟩:=hrel
  have HP:=AA hP
  obtain⟨hi,hk⟩:=hP.le
  obtain⟨c0,c1⟩:=(HT.out.below hbr).cells hi hk
  have hbs:=hbr.size
  clear hP
  have hpl:ps.length≤200:=by
   have h1:=HP.out.cnt
   have h2:=HQ.out.1
   rw[A0e] at h2
   omega
  by_cases hz:0<lcsD s t i k
  ·have g1:decide (0<lcsD s t i k)=true:=AG hz
   have hil:i<s.size:=by
    exact C1V
   have hkl:k<t.size:=by
    exact C1U
   have HS:=AA (A7e s t i k hil hkl)
   by_cases he:s[i]=t[k]
   ·have g3:((s[i].toNat:Int)==(t[k].toNat:Int))=true:=by rw[he];simp
    have hse:=HS.out.trans (if_pos he)
    have HON:Hid (∀r,Ms (L s) (L t) (i+1) (k+1) r→Ms (L s) (L t) 0 0 ((ps++ [(i,k)])++r)):=fun r hr=>by
     exact C1k
    have HC:Hid ((ps++ [(i,k)]).length+lcsD s t (i+1) (k+1)=lcs (L s) (L t)):=by
     unfold Hid;have:=HP.out.cnt;rw[AJ,Ah];omega
    have HD:=AA (HP.out.det.both hz hil hkl he)
    have ownx:=HP.out.xs
    have owny:=AA HP.out.ys
    have HA:=AA HP.out.ap
    clear he HS HP hse hz
    generalize lcsD s t i k=z0 at*
    go_wp2_with fail
    go_quiet (fail)
    have ownx2:=A1a ownx nq
    have owny2:=A1a owny.out nq
    have tok1:True:=trivial
    go_wp2_with (first
     |(at_builtin;have _t:=tok1;go_must (refine A3j rfl _ _ _ rfl w2.heap.size 3 i0 _ 1 8 Tryz.underlying91 hi0 hz0 hz1 hz2 rfl EE _ ps.length (ints (fsts ps)) rfl (ownx2.alloc _) ⟨_,0,none⟩ 1 1 [.int .i64 (i:Int)] rfl rfl (BL _ _ _) (by simp[Value.oneCell']) EE EE (by simp;omega) ?_);intro v6 w6 hown6 hg6 hb6 ha6;have owny6:=A5E (owny2.alloc _) HA.out.comm hg6;have hap6:=A5F (owny2.alloc _) HA.out.comm ha6;clear tok1 ownx2 owny2)
     |(at_builtin;go_must (refine A3j rfl _ _ _ rfl w2.heap.size 3 i0 _ 1 8 Tryz.underlying91 hi0 hz0 hz1 hz2 rfl EE _ ps.length (ints (snds ps)) rfl (owny6.alloc _) ⟨_,0,none⟩ 1 1 [.int .i64 (k:Int)] rfl rfl (BL _ _ _) (by simp[Value.oneCell']) EE EE (by have:=hb6.size;simp at this⊢;omega) ?_);intro v7 w7 hown7 hg7 hb7 ha7;have ownx7:=A5E (hown6.alloc _) hap6.comm hg7;have hap7:=A5F (hown6.alloc _) hap6.comm ha7))
    have hB7:Below w2.heap.size w2 w7:=by
     exact C1N
    go_roundw
    case rel=>exact⟨ps++ [(i,k)],i+1,k+1,by go_num,by go_num,⟨by rw[←B0j,AJ];exact ownx7,by rw[←B0k,AJ];exact hown7,hap7,HON.out,HC.out,⟨by omega,by omega⟩,HD.out⟩,hB7⟩
    case measure=>simp[intOf];omega
   ·have g3:((s[i].toNat:Int)==(t[k].toNat:Int))=false:=by
     exact B9J
    have hse:=HS.out.trans (if_neg he)
    obtain⟨d0,d1⟩:=(HT.out.below hbr).cells (i:=i+1) (k:=k) EE EE
    obtain⟨d2,d3⟩:=(HT.out.below hbr).cells (i:=i) (k:=k+1) EE EE
    have HON1:Hid (∀r,Ms (L s) (L t) (i+1) k r→Ms (L s) (L t) 0 0 (ps++r)):=fun r hr=>HP.out.on r (hr.low EE (AD _))
    have HON2:Hid (∀r,Ms (L s) (L t) i (k+1) r→Ms (L s) (L t) 0 0 (ps++r)):=fun r hr=>HP.out.on r (hr.low (AD _) EE)
    by_cases hge:lcsD s t i (k+1)≤lcsD s t (i+1) k
    ·have HC:Hid (ps.length+lcsD s t (i+1) k=lcs (L s) (L t)):=by
      unfold Hid;have:=HP.out.cnt;omega
     have g4:decide (lcsD s t i (k+1)≤lcsD s t (i+1) k)=true:=AG hge
     have HD:=AA (HP.out.det.down hz hil hkl he hge)
     clear he HS hse hz hge
     generalize lcsD s t i k=z0 at*
     generalize hz1':lcsD s t (i+1) k=z1 at*
     generalize lcsD s t i (k+1)=z2 at*
     go_wp2_with fail
     go_quiet (fail)
     go_wp2_with fail
     go_quiet (fail)
     go_wp2_with fail
     go_roundw
     case rel=>exact⟨ps,i+1,k,by go_num,rfl,⟨A1a HP.out.xs _,A1a HP.out.ys _,HP.out.ap,HON1.out,by rw[hz1'];exact HC.out,⟨by omega,hk⟩,HD.out⟩,Ds⟩
     case measure=>simp[intOf];omega
    ·have HC:Hid (ps.length+lcsD s t i (k+1)=lcs (L s) (L t)):=by
      unfold Hid;have:=HP.out.cnt;omega
     have g4:decide (lcsD s t i (k+1)≤lcsD s t (i+1) k)=false:=AC hge
     have HD:=AA (HP.out.det.right hz hil hkl he hge)
     clear he HS hse hz hge
     generalize lcsD s t i k=z0 at*
     generalize lcsD s t (i+1) k=z1 at*
     generalize hz2':lcsD s t i (k+1)=z2 at*
     go_wp2_with fail
     go_quiet (fail)
     go_wp2_with fail
     go_quiet (fail)
     go_wp2_with fail
     go_roundw
     case rel=>exact⟨ps,i,k+1,rfl,by go_num,⟨A1a HP.out.xs _,A1a HP.out.ys _,HP.out.ap,HON2.out,by rw[hz2'];exact HC.out,⟨hi,by omega⟩,HD.out⟩,Ds⟩
     case measure=>simp[intOf];omega
  ·have g1:decide (0<lcsD s t i k)=false:=AC hz
   have HC:Hid (ps.length=lcs (L s) (L t)):=by
    unfold Hid;have:=HP.out.cnt;omega
   have HM:Hid (Ms (L s) (L t) 0 0 ps):=by
    exact C1S
   have HD:=AA (HP.out.det.end_ hz)
   clear hz
   generalize lcsD s t i k=z0 at*
   go_wp2_with fail
   go_ret3
   exact⟨_,_,ps,rfl,HM.out,HC.out,HD.out,A3a HP.out.xs hb.size,A3a HP.out.ys hb.size,A0h hb hbr⟩
def A3C(s t:ByteArray):Int:=(s.size:Int)+t.size-2*(lcs (L s) (L t):Nat)
theorem B0O(s t:ByteArray)(h:200<s.size∨200<t.size)(w:World):
 Calls Tryz.prog 38 #[.string s,.string t] w fun e w'=>e= .returned (.tuple #[.int .i64 0,.int .i64 2])∧Below w.heap.size w w':=by
 have HV:=AA h
 clear h
 go_enter Tryz.func38,Tryz.ntmps38
 go_wp2_with fail
 refine(B0N s t HV.out _).mono ?_
 exact B9L
theorem A5v(s t:ByteArray)(hs:s.size≤200)(ht:t.size≤200)(w:World):
 Calls Tryz.prog 38 #[.string s,.string t] w fun e w'=>e= .returned (.tuple #[.int .i64 (A3C s t),.int .i64 0])∧Below w.heap.size w w':=by
 have HQ:=(A6e (L s) (L t)).1
 rw[A0e] at HQ
 have HD:Hid (A3C s t=(s.size:Int)+t.size-2*(lcs (L s) (L t):Nat)):=rfl
 go_enter Tryz.func38,Tryz.ntmps38
 go_wp2_with fail
 refine(B1R s t hs ht _).mono ?_
 rintro e w1 ⟨rfl,hb1⟩
 generalize lcs (L s) (L t)=z at*
 go_wp2_with fail
 go_ret2
 exact⟨by rw[HD.out];rfl,hb1⟩
theorem B0P(s t:ByteArray)(h:200<s.size∨200<t.size)(w:World):
 Calls Tryz.prog 10 #[.string s,.string t] w fun e w'=>e= .returned (.tuple #[.slice none 0 0,.int .i64 2])∧Below w.heap.size w w':=by
 have HV:=AA h
 clear h
 go_enter Tryz.func10,Tryz.ntmps10
 go_wp2_with fail
 refine(B0O s t HV.out _).mono ?_
 exact B9L
theorem B0Q(s t:ByteArray)(hs:s.size≤200)(ht:t.size≤200)(h:20<A3C s t)(w:World):
 Calls Tryz.prog 10 #[.string s,.string t] w fun e w'=>e= .returned (.tuple #[.slice none 0 0,.int .i64 11])∧Below w.heap.size w w':=by
 have g1:decide ((20:Int)<A3C s t)=true:=AG h
 clear h
 go_enter Tryz.func10,Tryz.ntmps10
 go_wp2_with fail
 refine(A5v s t hs ht _).mono ?_
 rintro e w1 ⟨rfl,hb1⟩
 generalize A3C s t=z at*
 go_wp2_with fail
 go_ret2
 exact⟨rfl,hb1⟩
theorem B3G{a b:List UInt8}{i k:Nat}{ps:List (Nat×Nat)}{m:Nat}(h:Ms a b i k (ps.drop m))(hm:m<ps.length):
 i≤(ps[m]).1∧k≤(ps[m]).2∧(ps[m]).1<a.length∧(ps[m]).2<b.length∧Ms a b ((ps[m]).1+1) ((ps[m]).2+1) (ps.drop (m+1))∧
  edOf a b i k (ps.drop m)=(if i<(ps[m]).1∨k<(ps[m]).2 then [⟨i,(ps[m]).1-i,(b.drop k).take ((ps[m]).2-k)⟩] else [])++edOf a b ((ps[m]).1+1) ((ps[m]).2+1) (ps.drop (m+1)):=by
 rw[Ag hm] at h⊢
 generalize ps[m]=p at*
 obtain⟨px,py⟩:=p
 cases h with
 |cons _ _ x y r h1 h2 h3 h4 h5 h6=>
  exact⟨h1,h2,h3,h4,h6,by simp only[edOf]⟩
theorem B5Z{a b:List UInt8}{i k:Nat}{ps:List (Nat×Nat)}{m:Nat}(h:Ms a b i k (ps.drop m))(hm:¬m<ps.length):
 i≤a.length∧k≤b.length∧edOf a b i k (ps.drop m)=(if i<a.length∨k<b.length then [⟨i,a.length-i,(b.drop k).take (b.length-k)⟩] else []):=by
 have e:ps.drop m=[]:=Au EE
 rw[e] at h⊢
 cases h with
 |nil _ _ h1 h2=>
  refine⟨h1,h2, ?_⟩
  simp only[edOf]
  rw[AX (by rw[AZ];exact AD _)]
theorem B3H{w:World}{B:Nat}{A:Option Addr}{ps:List (Nat×Nat)}(f:List (Nat×Nat)→List Int)(g:Nat×Nat→Nat)(hf:∀l,f l=l.map fun p=>(g p:Int))(hr:Rd w B 1 A ps.length (ints (f ps))){m:Nat}(hm:m<ps.length):
 ∃ad:Addr,A=some ad∧w.cell? (ad.add m)=some (.int .i64 (g ps[m]:Nat)):=by
 obtain⟨ad,u,hA,_,hu,hc⟩:=hr.at_ hm
 rw[hf,ints,CE,BT,AL hm] at hu
 obtain rfl:=Aw hu
 exact⟨ad,hA,hc⟩
theorem B1S{a b:List UInt8}{i k:Nat}{ms:List (Nat×Nat)}(h:Ms a b i k ms):((edOf a b i k ms).length:Int)≤ms.length+1:=by
 induction h with
 |nil i k h1 h2=>simp only[edOf];split<;>simp
 |cons i k x y r h1 h2 h3 h4 h5 h6 ih=>
  simp only[edOf,AJ,AM]
  split<;>simp<;>omega
structure DfAt (a b:List UInt8) (ps:List (Nat×Nat)) (m i k:Nat) (q:List Ed):Prop where
 ms:m≤ps.length→Ms a b i k (ps.drop m)∧edOf a b 0 0 ps=q++edOf a b i k (ps.drop m)
 fin:ps.length<m→q=edOf a b 0 0 ps
 le:q.length≤500∧i≤300∧k≤300
theorem DfAt.end_{a b:List UInt8}{ps:List (Nat×Nat)}{m i k:Nat}{q q':List Ed}(h:DfAt a b ps m i k q)(hm:m=ps.length)(hl:(edOf a b 0 0 ps).length≤500)(hA:a.length≤200)(hB:b.length≤200)(hq:q'=q++(if i<a.length∨k<b.length then [⟨i,a.length-i,(b.drop k).take (b.length-k)⟩] else [])):DfAt a b ps (m+1) (a.length+1) (b.length+1) q':=by
 obtain⟨h1,h2⟩:=h.ms EE
 have h3:=(B5Z h1 EE).2.2
 have e:q'=edOf a b 0 0 ps:=by rw[h2,h3,hq]
 exact⟨fun h=>by omega,fun _=>e,by rw[e];exact hl,by omega,by omega⟩
theorem DfAt.next_{a b:List UInt8}{ps:List (Nat×Nat)}{m i k:Nat}{q q':List Ed}(h:DfAt a b ps m i k q)(hm:m<ps.length)(hl:(edOf a b 0 0 ps).length≤500)(hA:a.length≤200)(hB:b.length≤200)(hq:q'=q++(if i<(ps[m]).1∨k<(ps[m]).2 then [⟨i,(ps[m]).1-i,(b.drop k).take ((ps[m]).2-k)⟩] else [])):DfAt a b ps (m+1) ((ps[m]).1+1) ((ps[m]).2+1) q':=by
 obtain⟨h1,h2⟩:=h.ms EE
 obtain⟨h3,h4,h5,h6,h7,h8⟩:=B3G h1 hm
 have e:edOf a b 0 0 ps=q'++edOf a b ((ps[m]).1+1) ((ps[m]).2+1) (ps.drop (m+1)):=by rw[h2,h8,hq,AN]
 refine⟨fun _=>⟨h7,e⟩,fun hh=>by omega, ?_,by omega,by omega⟩
 rw[e,AJ] at hl;omega
theorem B9C(s t:ByteArray)(hs:s.size≤200)(ht:t.size≤200)(h:A3C s t≤20)(w:World):
 Calls Tryz.prog 10 #[.string s,.string t] w fun e w'=>∃v ps,e= .returned (.tuple #[v,.int .i64 0])∧Ms (L s) (L t) 0 0 ps∧ps.length=lcs (L s) (L t)∧
  w'.ownsRow w.heap.size 95 3 v (edOf (L s) (L t) 0 0 ps).length (A0f (edOf (L s) (L t) 0 0 ps))∧Below w.heap.size w w':=by
 obtain⟨i0,hi0,hz0,hz1,hz2⟩:=info_parts A7A
 have g1:decide ((20:Int)<A3C s t)=false:=AC EE
 have HQ:=(A6e (L s) (L t)).1
 rw[A0e] at HQ
 clear h
 go_enter Tryz.func10,Tryz.ntmps10
 go_wp2_with fail
 refine(A5v s t hs ht _).mono ?_
 rintro e w1 ⟨rfl,hb1⟩
 generalize A3C s t=z at*
 go_wp2_with fail
 refine(A9C s t hs ht _).mono ?_
 rintro e w2 ⟨vx,vy,ps,rfl,hms,hpl,ownx,owny,hb2⟩
 obtain⟨A,c,rfl,hnc,hcm,hrx⟩:=A1e ownx
 obtain⟨A',c',rfl,hnc',hcm',hry⟩:=A1e owny
 have HX:=AA hrx
 have HY:=AA hry
 have HPL:=AA hpl
 have hp2:ps.length≤200:=EE
 have hb:=A0h hb1 hb2
 have H0:Hid (DfAt (L s) (L t) ps 0 0 0 []):=⟨fun _=>⟨hms,rfl⟩,fun h=>absurd h (DN _),by simp⟩
 have HM:=AA hms
 have hel:=B1S hms
 have HE:Hid ((edOf (L s) (L t) 0 0 ps).length≤500):=by unfold Hid;omega
 have HLA:Hid ((L s).length=s.size):=A0e s
 have HLB:Hid ((L t).length=t.size):=A0e t
 clear hrx hry hpl hms hel ownx owny hb1 hb2 HQ
 have hz2':w.heap.size≤w2.heap.size:=hb.size
 go_wp2_with fail
 go_loopw [11,12,13,38] (fun o i k m wr=>∃(m' i' k':Nat) (q:List Ed),m'≤ps.length+1∧m= .int .i64 m'∧i= .int .i64 i'∧k= .int .i64 k'∧DfAt (L s) (L t) ps m' i' k' q∧
  wr.ownsRow w2.heap.size 95 3 o q.length (A0f q)∧Below w2.heap.size w2 wr) (fun _ _ _ m _=>ps.length+1-(intOf m).toNat)
 case atStart=>exact⟨0,0,0,[],AS _,rfl,rfl,rfl,H0.out,Ad _ _ _ _,AI _ _⟩
 case round=>
  clear H0
  obtain⟨m,i,k,q,hm,rfl,rfl,rfl,hD,hown,hbr⟩:=hrel
  have HD:=AA hD
  obtain⟨hq5,hi5,hk5⟩:=hD.le
  clear hD
  have hbs:=hbr.size
  by_cases hlt:m<ps.length+1
  ·exact C0p
  ·obtain rfl:m=ps.length+1:=EE
   have g2:decide (((ps.length+1:Nat):Int)<(ps.length:Int)+1)=false:=AC EE
   have HF:=AA (HD.out.fin EE)
   have HO:=AA hown
   clear hown
   go_wp2_with fail
   go_ret2
   exact⟨_,ps,rfl,HM.out,HPL.out,by rw[←HF.out];exact A3a HO.out hz2',A0h hb hbr⟩
theorem B0R(s t:ByteArray)(hs:s.size≤200)(ht:t.size≤200)(h:A3C s t≤20)(w:World):
 Calls Tryz.prog 10 #[.string s,.string t] w fun e w'=>∃v,e= .returned (.tuple #[v,.int .i64 0])∧Ms (L s) (L t) 0 0 (A5e s t)∧(A5e s t).length=lcs (L s) (L t)∧
  w'.ownsRow w.heap.size 95 3 v (edOf (L s) (L t) 0 0 (A5e s t)).length (A0f (edOf (L s) (L t) 0 0 (A5e s t)))∧Below w.heap.size w w':=by
 obtain⟨i0,hi0,hz0,hz1,hz2⟩:=info_parts A7A
 have g1:decide ((20:Int)<A3C s t)=false:=AC EE
 have HQ:=(A6e (L s) (L t)).1
 rw[A0e] at HQ
 clear h
 obtain⟨pz,hpz⟩:∃pz,A5e s t=pz:=⟨_,rfl⟩
 rw[hpz]
 have HPZ:=AA hpz
 clear hpz
 go_enter Tryz.func10,Tryz.ntmps10
 go_wp2_with fail
 refine(A5v s t hs ht _).mono ?_
 rintro e w1 ⟨rfl,hb1⟩
 generalize A3C s t=z at*
 go_wp2_with fail
 refine(A8I s t hs ht _).mono ?_
 rintro e w2 ⟨vx,vy,ps,rfl,hms,hpl,hps,ownx,owny,hb2⟩
 obtain rfl:ps=pz:=hps.trans HPZ.out
 clear hps
 obtain⟨A,c,rfl,hnc,hcm,hrx⟩:=A1e ownx
 obtain⟨A',c',rfl,hnc',hcm',hry⟩:=A1e owny
 have HX:=AA hrx
 have HY:=AA hry
 have HPL:=AA hpl
 have hp2:ps.length≤200:=EE
 have hb:=A0h hb1 hb2
 have H0:Hid (DfAt (L s) (L t) ps 0 0 0 []):=⟨fun _=>⟨hms,rfl⟩,fun h=>absurd h (DN _),by simp⟩
 have HM:=AA hms
 have hel:=B1S hms
 have HE:Hid ((edOf (L s) (L t) 0 0 ps).length≤500):=by unfold Hid;omega
 have HLA:Hid ((L s).length=s.size):=A0e s
 have HLB:Hid ((L t).length=t.size):=A0e t
 clear hrx hry hpl hms hel ownx owny hb1 hb2 HQ
 have hz2':w.heap.size≤w2.heap.size:=hb.size
 go_wp2_with fail
 go_loopw [11,12,13,38] (fun o i k m wr=>∃(m' i' k':Nat) (q:List Ed),m'≤ps.length+1∧m= .int .i64 m'∧i= .int .i64 i'∧k= .int .i64 k'∧DfAt (L s) (L t) ps m' i' k' q∧
  wr.ownsRow w2.heap.size 95 3 o q.length (A0f q)∧Below w2.heap.size w2 wr) (fun _ _ _ m _=>ps.length+1-(intOf m).toNat)
 case atStart=>exact⟨0,0,0,[],AS _,rfl,rfl,rfl,H0.out,Ad _ _ _ _,AI _ _⟩
 case round=>
  clear H0
  obtain⟨m,i,k,q,hm,rfl,rfl,rfl,hD,hown,hbr⟩:=hrel
  have HD:=AA hD
  obtain⟨hq5,hi5,hk5⟩:=hD.le
  clear hD
  have hbs:=hbr.size
  by_cases hlt:m<ps.length+1
  ·exact C0p
  ·obtain rfl:m=ps.length+1:=EE
   have g2:decide (((ps.length+1:Nat):Int)<(ps.length:Int)+1)=false:=AC EE
   have HF:=AA (HD.out.fin EE)
   have HO:=AA hown
   clear hown
   go_wp2_with fail
   go_ret2
   exact⟨_,rfl,HM.out,HPL.out,by rw[←HF.out];exact A3a HO.out hz2',A0h hb hbr⟩
end Go.Proofs.YtplgghjdidmcfaaGreatDoor
