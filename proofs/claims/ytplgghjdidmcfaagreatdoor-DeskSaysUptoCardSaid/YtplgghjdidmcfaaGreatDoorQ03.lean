/- Written anew, smaller, by a program of our own out of our texts. No condition of our own. -/
import Derived.Test.YtplgghjdidmcfaaGreatDoorQ02
import Derived.Test.YtplgghjdidmcfaaGreatDoorQ01
import Derived.OrdersHeld
import Derived.Deep.RegionHeld
set_option maxRecDepth 100000
set_option maxHeartbeats 16000000
set_option linter.all false
namespace Go.Proofs.YtplgghjdidmcfaaGreatDoor
open Go.RowKit
theorem C1a{P:Prop}(h:P:=by
 go_enter Tryz.func180,Tryz.ntmps180
 go_wp2
 refine wp_region_quiet_below EG EG ?_
 repeat(go_big_quiet_step (fail))
 refine wpQuiet_nil ?_
 intro w1 hb10
 have hb1:=A0B hb10
 clear hb10
 go_wp2
 refine wp_region_quiet_below EG EG ?_
 repeat(go_big_quiet_step (fail))
 exact C2I
 ):P:=h
theorem C1s{P:Prop}(h:P:=by
 simp only[Sem.run_pure,Result.ok.injEq] at h;exact⟨_,h.1.symm⟩
 ):P:=h
theorem C1D{P:Prop}(h:P:=by
 go_wp2
 go_quiet (fail)
 go_wp2_with fail
 go_ret2
 exact⟨u4,by rw[←HD.out.2];rfl,by rw[←HD.out.1];exact A1a hown _,A0d hb _⟩
 ):P:=h
theorem C1Z{P:Prop}(h:P:=by
 exact⟨by rw[HF.out];rfl,A0h (((AI _ _).alloc (AD _) _).trans (hb2.mono EH)) hb3⟩
 ):P:=h
theorem C2I{P:Prop}(h:P:=by
 refine wpQuiet_nil ?_
 intro w2 hb20
 have hb2:=A0B hb20
 clear hb20
 go_wp2_with fail
 go_ret2
 exact⟨_,by rw[HD.out];rfl,by rw[HD.out];exact Ad _ _ _ _,A0h hb1 hb2⟩
 ):P:=h
def hdL(n:Nat):List UInt8:=[UInt8.ofNat (n/256),UInt8.ofNat n]
theorem B1p(n:Nat)(h:n≤1100):(#[Value.int .u8 ((n:Int)/256),.int .u8 ((n:Int)%256)]:Array Value).toList=byteCells (hdL n):=by
 have h0:(n:Int)/256=((UInt8.ofNat (n/256)).toNat:Int):=by rw[Bt];omega
 have h1:(n:Int)%256=((UInt8.ofNat n).toNat:Int):=by rw[Bt];omega
 rw[h0,h1];rfl
theorem B1q(s:ByteArray):S (hdL s.size)++s++A4V (A2V (L (S (hdL s.size)++s)))=S (A0T (L s)):=by
 have h1:S (hdL s.size)++s=S (UInt8.ofNat ((L s).length/256)::UInt8.ofNat (L s).length::L s):=by
  rw[A1i,L_S,A0e];rfl
 rw[h1,A1i,L_S];rfl
theorem B3s(n:Nat):(S (hdL n)).size≤2:=by rw[A0b];exact AD _
theorem A9S(n:Nat):(A4V n).size≤4:=AD _
theorem A9T(s:ByteArray)(hs:s.size≤1100)(w:World):
 Calls Tryz.prog 168 #[.string s] w fun e w'=>e= .returned (.tuple #[.string (S (A0T (L s))),.int .i64 0])∧Below w.heap.size w w':=by
 have hcv:=B1k (P:=Tryz.prog) Tryz.underlying119 Tryz.underlying5 Tryz.underlying9 w #[Value.int .u8 ((s.size:Int)/256),.int .u8 ((s.size:Int)%256)] (hdL s.size) 2 2 (B1p _ hs) rfl
 have HF:=AA (B1q s)
 have z1:=B3s s.size
 have z3:(S (hdL s.size)++s).size≤1102:=by rw[Bn];omega
 have z2:=A9S (A2V (L (S (hdL s.size)++s)))
 go_enter Tryz.func168,Tryz.ntmps168
 go_wp2_with fail
 refine(A9Q _ _ EE).mono ?_
 rintro e w2 ⟨rfl,hb2⟩
 go_wp2_with fail
 refine(A6N _ (A6M _) _).mono ?_
 rintro e w3 ⟨rfl,hb3⟩
 generalize A4V (A2V (L (S (hdL s.size)++s)))=F at*
 go_wp2_with fail
 go_ret2
 exact C1Z
theorem A5n(s:ByteArray)(hs:s.size≤1100)(w:World):
 Calls Tryz.prog 128 #[.string s] w fun e w'=>e= .returned (.string (S (A0T (L s))))∧Below w.heap.size w w':=by
 have hcv:=B1k (P:=Tryz.prog) Tryz.underlying119 Tryz.underlying5 Tryz.underlying9 w #[Value.int .u8 ((s.size:Int)/256),.int .u8 ((s.size:Int)%256)] (hdL s.size) 2 2 (B1p _ hs) rfl
 have HF:=AA (B1q s)
 have z1:=B3s s.size
 have z3:(S (hdL s.size)++s).size≤1102:=by rw[Bn];omega
 have z2:=A9S (A2V (L (S (hdL s.size)++s)))
 go_enter Tryz.func128,Tryz.ntmps128
 go_wp2_with fail
 refine(B4b _ _ EE).mono ?_
 rintro e w2 ⟨rfl,hb2⟩
 go_wp2_with fail
 refine(B2O _ (A6M _) _).mono ?_
 rintro e w3 ⟨rfl,hb3⟩
 generalize A4V (A2V (L (S (hdL s.size)++s)))=F at*
 go_wp2_with fail
 go_ret
 exact C1Z
theorem B2P(s:ByteArray)(hs:1100<s.size)(w:World):
 Calls Tryz.prog 168 #[.string s] w fun e w'=>e= .returned (.tuple #[.string (S []),.int .i64 2])∧Below w.heap.size w w':=by
 go_enter Tryz.func168,Tryz.ntmps168
 go_wp2_with fail
 go_ret2
 exact⟨rfl,AI _ _⟩
structure ScanAt (l:List UInt8) (at_:Nat) (recs:List (List UInt8)):Prop where
 count:recs.length*6≤at_
 le:at_≤l.length
 recs:recs++(A0P (l.drop at_)).1=(A0P l).1
 sum:at_+(A0P (l.drop at_)).2=(A0P l).2
theorem ScanAt.done{l:List UInt8}{at_:Nat}{recs:List (List UInt8)}(h:ScanAt l at_ recs)(hn:¬A1P (l.drop at_)):recs=(A0P l).1∧at_=(A0P l).2:=by
 have h1:=h.recs;have h2:=h.sum
 rw[A1W hn] at h1 h2
 exact⟨by simpa using h1,by simpa using h2⟩
theorem ScanAt.step{l:List UInt8}{at_:Nat}{recs:List (List UInt8)}(h:ScanAt l at_ recs)(hn:A1P (l.drop at_)):ScanAt l (at_+(A0q (l.drop at_)+6)) (recs++ [A3t (l.drop at_)]):=by
 have h1:=h.recs;have h2:=h.sum;have h3:=h.le
 have h4:=hn.2.2.1
 rw[AZ] at h4
 rw[A4s hn,List.drop_drop] at h1 h2
 exact⟨by have:=h.count;simp only[AJ,AM,BK];omega,by omega,by simpa using h1,by simp only at h2;omega⟩
def strCells(l:List (List UInt8)):List Value:=l.map fun r=> .string (S r)
theorem A6q:(Tryz.prog.info? 9).map (fun i=>(i.zero,i.size,i.bytes))=some (some (.string ByteArray.empty),1,16):=by kernel_rfl
theorem B1r(s:ByteArray)(hs:s.size≤16777216)(w:World):
 Calls Tryz.prog 118 #[.string s] w fun e w'=>∃v,e= .returned (.tuple #[v,.int .i64 ((A0P (L s)).2:Nat)])∧
  w'.ownsRow w.heap.size 9 1 v (A0P (L s)).1.length (strCells (A0P (L s)).1)∧Below w.heap.size w w':=by
 obtain⟨i0,hi0,hz0,hz1,hz2⟩:=info_parts A6q
 go_enter Tryz.func118,Tryz.ntmps118
 go_wp2
 go_loopw [4,5] (fun v i wr=>∃(at_:Nat) (recs:List (List UInt8)),ScanAt (L s) at_ recs∧i= .int .i64 at_∧wr.ownsRow w.heap.size 9 1 v recs.length (strCells recs)∧Below w.heap.size w wr)
  (fun _ i _=>s.size-(intOf i).toNat)
 case atStart=>exact⟨0,[],⟨AS _,AS _,by simp,by simp⟩,rfl,Ad _ _ _ _,AI _ _⟩
 case round=>
  obtain⟨at_,recs,HA,rfl,hown,hb⟩:=hrel
  have hle:=HA.le
  rw[A0e] at hle
  by_cases h6:at_+6≤s.size
  ·have ix0:=fun W=>A3H (P:=Tryz.prog) Tryz.underlying9 s at_ EE W
   have ix1:∀W,(Instr.index 9 (.string s) (.int .i64 ((at_:Int)+1))).run Tryz.prog W= .ok (.int .u8 (((L s).getD (at_+1) 0).toNat:Int)) W:=fun W=>A3H (P:=Tryz.prog) Tryz.underlying9 s (at_+1) EE W
   have hb0:=CH ((L s).getD at_ 0)
   have hH:A0q ((L s).drop at_)=((L s).getD at_ 0).toNat*256+((L s).getD (at_+1) 0).toNat:=by
    simp[A0q,AK,BU]
   have hb1:=CH ((L s).getD (at_+1) 0)
   generalize((L s).getD at_ 0).toNat=b0 at*
   generalize((L s).getD (at_+1) 0).toNat=b1 at*
   have HN:Hid (A0q ((L s).drop at_)=b0*256+b1):=hH
   clear hH
   have hlen:((L s).drop at_).length=s.size-at_:=by rw[AZ,A0e]
   have H1:=AA hlen;clear hlen
   by_cases hA:1100<b0*256+b1
   ·have HD:=AA (HA.done (fun h=>by have:=h.2.1;rw[HN.out] at this;omega))
    exact C1D
   by_cases hB:s.size-at_<b0*256+b1+6
   ·have HD:=AA (HA.done (fun h=>by have:=h.2.2.1;rw[HN.out,H1.out] at this;omega))
    exact C1D
   have HE:Hid (s.extract at_ (at_+(b0*256+b1)+6)=S (((L s).drop at_).take (A0q ((L s).drop at_)+6))):=by
    unfold Hid
    rw[HN.out,A2E];congr 2;omega
   have HRi:=AA (B5r (l:=(L s).drop at_) (n:=A0q ((L s).drop at_)) (by rw[HN.out,H1.out];omega))
   by_cases hC:A4d (s.extract at_ (at_+(b0*256+b1)+6))=true
   ·have HO:Hid (A1P ((L s).drop at_)):=⟨by rw[H1.out];omega,by rw[HN.out];omega,by rw[HN.out,H1.out];omega,HRi.out.1 (by rw[←HE.out];exact hC)⟩
    have HS:=AA (HA.step HO.out)
    go_wp2
    go_quiet (fail)
    go_wp2_with fail
    refine(A6O _ (by simp;omega) _).mono ?_
    rintro e w5 ⟨rfl,hb5⟩
    have hown5:=A1l (A1a hown nq) hb5
    have hb5':Below w.heap.size w w5:=(A0d hb _).trans (hb5.mono hb.size)
    have hcnt:=HA.count
    clear hown hb hb5
    go_wp2_with (at_builtin;go_must (refine B3Z rfl _ _ _ rfl w.heap.size 9 i0 _ 1 16 Tryz.underlying25 hi0 hz0 hz1 hz2 rfl EE _ recs.length (strCells recs) rfl (hown5.alloc _) ⟨w5.heap.size,0,none⟩ 1 1 [.string (s.extract (at_+2) (at_+2+(b0*256+b1)))] rfl rfl (BL _ _ _) (by simp[Value.oneCell']) EE EE (by have:=hb5'.size;simp;omega) ?_);intro v6 w6 hown6 hb6)
    go_roundw
    case rel=>exact⟨_,_,HS.out,by rw[HN.out];go_num,by
     have e1:s.extract (at_+2) (at_+2+(b0*256+b1))=S (A3t ((L s).drop at_)):=by
      rw[A2E];unfold A3t;rw[List.drop_drop,HN.out];congr 2;omega
     rw[e1] at hown6
     simpa[strCells] using hown6,(hb5'.alloc hb5'.size _).trans hb6⟩
    case measure=>simp[intOf];omega
   ·have hC':A4d (s.extract at_ (at_+(b0*256+b1)+6))=false:=by simpa using hC
    have HD:=AA (HA.done (fun h=>hC (by rw[HE.out];exact HRi.out.2 h.2.2.2)))
    clear hC
    go_wp2
    go_quiet (fail)
    go_wp2_with fail
    refine(A6O _ (by simp;omega) _).mono ?_
    rintro e w5 ⟨rfl,hb5⟩
    go_wp2_with fail
    go_ret2
    exact⟨u4,by rw[←HD.out.2];rfl,by rw[←HD.out.1];exact A1l (A1a hown _) hb5,(A0d hb _).trans (hb5.mono hb.size)⟩
  ·have HD:=AA (HA.done (fun h=>by have:=h.1;rw[AZ,A0e] at this;omega))
   go_wp2_with fail
   go_ret2
   exact⟨u4,by rw[←HD.out.2];rfl,by rw[←HD.out.1];exact hown,hb⟩
theorem A7L(l:List (List UInt8)):∀u∈strCells l,u.oneCell'=true:=by
 intro u hu
 obtain⟨r,_,rfl⟩:=DA.1 hu
 rfl
theorem A7M(n:Nat):∀(s:ByteArray) (_hs:s.size≤16777216) (_hn:s.size≤n) (w:World),
 Calls Tryz.prog 180 #[.string s] w fun e w'=>∃v,e= .returned (.tuple #[v,.int .i64 ((A0P (L s)).2:Nat)])∧
  w'.ownsRow w.heap.size 9 1 v (A0P (L s)).1.length (strCells (A0P (L s)).1)∧Below w.heap.size w w':=by
 induction n with
 |zero=>
  intro s hs hn w
  have HD:=AA (A1W (l:=L s) (fun h=>by have:=h.1;rw[A0e] at this;omega))
  go_enter Tryz.func180,Tryz.ntmps180
  go_wp2_with fail
  go_ret2
  exact⟨_,by rw[HD.out];rfl,by rw[HD.out];exact Ad _ _ _ _,AI _ _⟩
 |succ n ih=>
  intro s hs hn w
  have IH:=AA ih
  clear ih
  obtain⟨i0,hi0,hz0,hz1,hz2⟩:=info_parts A6q
  by_cases h6:6≤s.size
  ·have ix0:∀W,(Instr.index 9 (.string s) (.int .i64 0)).run Tryz.prog W= .ok (.int .u8 (((L s).getD 0 0).toNat:Int)) W:=fun W=>A3H (P:=Tryz.prog) Tryz.underlying9 s 0 EE W
   have ix1:∀W,(Instr.index 9 (.string s) (.int .i64 1)).run Tryz.prog W= .ok (.int .u8 (((L s).getD 1 0).toNat:Int)) W:=fun W=>A3H (P:=Tryz.prog) Tryz.underlying9 s 1 EE W
   have hb0:=CH ((L s).getD 0 0)
   have hb1:=CH ((L s).getD 1 0)
   have HN:Hid (A0q (L s)=((L s).getD 0 0).toNat*256+((L s).getD 1 0).toNat):=rfl
   generalize((L s).getD 0 0).toNat=b0 at*
   generalize((L s).getD 1 0).toNat=b1 at*
   have H1:=AA (A0e s)
   by_cases hA:1100<b0*256+b1
   ·have g1:decide ((1100:Int)<(b0:Int)*256+(b1:Int))=true:=AG EE
    have HD:=AA (A1W (l:=L s) (fun h=>by have:=h.2.1;rw[HN.out] at this;omega))
    exact C1a
   have g1:decide ((1100:Int)<(b0:Int)*256+(b1:Int))=false:=AC EE
   by_cases hB:s.size<b0*256+b1+6
   ·have g2:decide ((s.size:Int)<(b0:Int)*256+(b1:Int)+6)=true:=AG EE
    have HD:=AA (A1W (l:=L s) (fun h=>by have:=h.2.2.1;rw[HN.out,H1.out] at this;omega))
    exact C1a
   have g2:decide ((s.size:Int)<(b0:Int)*256+(b1:Int)+6)=false:=AC EE
   have HE1:Hid (s.extract 2 (2+(b0*256+b1))=S (A3t (L s))):=by
    unfold Hid
    rw[A2E];unfold A3t;rw[HN.out];congr 2;omega
   have HE2:Hid (s.extract 0 (b0*256+b1+6)=S ((L s).take (A0q (L s)+6))):=by
    unfold Hid
    rw[A2E,HN.out,Az];rfl
   have HF:=AA (B5s (l:=L s) (by rw[HN.out,H1.out];omega))
   by_cases hC:A4e ((L s).take (A0q (L s)+2))=((L s).drop (A0q (L s)+2)).take 4
   ·have HO:Hid (A1P (L s)):=⟨by rw[H1.out];omega,by rw[HN.out];omega,by rw[HN.out,H1.out];omega,hC⟩
    have HS:=AA (A4s HO.out)
    have hq:((S (A0T (L (s.extract 2 (2+(b0*256+b1)))))).toList==(s.extract 0 (b0*256+b1+6)).toList)=true:=by
     rw[beqB,As,HE1.out,HE2.out,L_S,HF.out.2 hC]
    clear hC
    go_enter Tryz.func180,Tryz.ntmps180
    go_wp2
    refine wp_region_quiet_below EG EG ?_
    repeat(go_big_quiet_step (fail))
    refine wpQuiet_nil ?_
    intro w1 hb10
    have hb1:=A0B hb10
    clear hb10
    go_wp2
    refine wp_region_quiet_below EG EG ?_
    repeat(go_big_quiet_step ((go_at_call 128;exact BS (A5n _ (by first|omega|(simp<;>omega)) _))))
    refine wpQuiet_nil ?_
    intro w2 hb20
    have hb2:=A0B hb20
    clear hb20
    have HX:Hid (L (s.extract (b0*256+b1+6) s.size)=(L s).drop (A0q (L s)+6)):=by
     unfold Hid
     rw[A0x,HN.out,AX (by rw[AZ,A0e];omega)]
    go_wp2_with fail
    refine(IH.out (s.extract (b0*256+b1+6) s.size) (by rw[Ak];omega) (by rw[Ak];omega) _).mono ?_
    rintro e w3 ⟨v3,rfl,hown3,hb3⟩
    obtain⟨A3,c3,rfl,_,_,hrd3⟩:=A1e hown3
    have hcnt:=A5Q (L (s.extract (b0*256+b1+6) s.size))
    rw[A0e,Ak] at hcnt
    have hk3:=A6p (L (s.extract (b0*256+b1+6) s.size))
    rw[A0e,Ak] at hk3
    have hb3':Below w.heap.size w w3:=A0h (A0h hb1 hb2) hb3
    rw[HX.out] at hrd3 hcnt hk3⊢
    clear hown3
    generalize(A0P ((L s).drop (A0q (L s)+6))).2=k3 at*
    generalize(A0P ((L s).drop (A0q (L s)+6))).1=l3 at*
    generalize hm3:l3.length=m3 at*
    have HM3:=AA hm3;clear hm3
    go_wp2_with (at_builtin;go_must (refine A5l rfl _ _ _ rfl w.heap.size 9 i0 _ 1 16 Tryz.underlying25 hi0 hz0 hz1 hz2 rfl EE _ 1 [.string (s.extract 2 (2+(b0*256+b1)))] rfl (World.ownsRow_lit w3 _ 1 hb3'.size (by unfold maxLen;omega) rfl) w3.heap.size A3 _ c3 (strCells l3) rfl (hrd3.alloc (AD _) _) (A7L _) EE EE (by have:=hb3'.size;simp;omega) ?_);intro v6 w6 hown6 hb6)
    go_ret2
    refine⟨v6, ?_, ?_,(hb3'.alloc hb3'.size _).trans hb6⟩
    ·rw[HS.out,HN.out]
     refine congrArg (fun x=>Ending.returned (Value.tuple #[v6,Value.int IntKind.i64 x])) ?_
     show(k3:Int)+((b0:Int)*256+(b1:Int))+6=((k3+(b0*256+b1)+6:Nat):Int)
     omega
    ·rw[HE1.out] at hown6
     rw[HS.out,AM,HM3.out,DB]
     exact hown6
   ·have HD:=AA (A1W (l:=L s) (fun h=>hC h.2.2.2))
    have hq:((S (A0T (L (s.extract 2 (2+(b0*256+b1)))))).toList==(s.extract 0 (b0*256+b1+6)).toList)=false:=by
     rw[beqB,Bg,HE1.out,HE2.out,L_S]
     intro h;exact hC (HF.out.1 (S_inj h))
    clear hC
    go_enter Tryz.func180,Tryz.ntmps180
    go_wp2
    refine wp_region_quiet_below EG EG ?_
    repeat(go_big_quiet_step (fail))
    refine wpQuiet_nil ?_
    intro w1 hb10
    have hb1:=A0B hb10
    clear hb10
    go_wp2
    refine wp_region_quiet_below EG EG ?_
    repeat(go_big_quiet_step ((go_at_call 128;exact BS (A5n _ (by first|omega|(simp<;>omega)) _))))
    exact C2I
  ·have HD:=AA (A1W (l:=L s) (fun h=>by have:=h.1;rw[A0e] at this;omega))
   go_enter Tryz.func180,Tryz.ntmps180
   go_wp2_with fail
   go_ret2
   exact⟨_,by rw[HD.out];rfl,by rw[HD.out];exact Ad _ _ _ _,AI _ _⟩
theorem str_at{l:List (List UInt8)}{k:Nat}{u:Value}(h:(strCells l)[k]? =some u):∃x,l[k]? =some x∧u= .string (S x):=by
 unfold strCells at h
 rw[BT] at h
 cases hx:l[k]? with
 |none=>rw[hx] at h;simp at h
 |some x=>rw[hx] at h;exact⟨x,rfl,by simpa using h.symm⟩
theorem A9s(A B:Option Addr)(n c d BA BB:Nat)(l:List (List UInt8))(w:World)(hn:n≤9223372036854775807)(ha:Rd w BA 1 A n (strCells l))(hb:Rd w BB 1 B n (strCells l)):
 Calls Tryz.prog 40 #[.slice A n c,.slice B n d] w fun e w'=>e= .returned (.bool true)∧Below w.heap.size w w':=by
 have Ha:=AA ha;clear ha
 have Hb:=AA hb;clear hb
 go_enter Tryz.func40,Tryz.ntmps40
 go_wp2
 go_loopw [13] (fun i wr=>∃k m:Nat,k≤n∧i= .int .i64 k∧wr=w.drewN m) (fun i _=>n-(intOf i).toNat)
 case atStart=>exact⟨0,0,AS _,rfl,rfl⟩
 case round=>
  obtain⟨k,m,hk,rfl,rfl⟩:=hrel
  by_cases hlt:k<n
  ·obtain⟨ad,u,rfl,_,hu,hca⟩:=Ha.out.at_ hlt
   obtain⟨bd,u',rfl,_,hu',hcb⟩:=Hb.out.at_ hlt
   rw[hu] at hu'
   obtain rfl:u=u':=by simpa using hu'
   obtain⟨x,hx,rfl⟩:=str_at hu
   clear hu hu' hx
   generalize S x=sx at*
   go_wp2
   go_quiet (fail)
   go_wp2
   go_roundw
   case rel=>exact⟨k+1,_,by omega,by go_num,rfl⟩
   case measure=>simp[intOf];omega
  ·go_wp2
   go_ret
   exact⟨rfl,A0d (AI _ _) _⟩
theorem A9t(A B:Option Addr)(n c d BA BB:Nat)(l:List (List UInt8))(w:World)(hn:n≤9223372036854775807)(ha:Rd w BA 1 A n (strCells l))(hb:Rd w BB 1 B n (strCells l)):
 Calls Tryz.prog 11 #[.slice A n c,.slice B n d] w fun e w'=>e= .returned (.bool true)∧Below w.heap.size w w':=by
 have Ha:=AA ha;clear ha
 have Hb:=AA hb;clear hb
 go_enter Tryz.func11,Tryz.ntmps11
 go_wp2_with fail
 refine(A9s A B n c d BA BB l w hn Ha.out Hb.out).mono ?_
 rintro e w1 ⟨rfl,hb1⟩
 go_wp2_with fail
 go_ret
 exact⟨rfl,hb1⟩
theorem B2Q(l:List (List UInt8))(k:Nat)(h:k<l.length):(strCells l)[k]? =some (.string (S (l.getD k []))):=by
 rw[strCells,BT,AK,AL h];rfl
theorem A2t{w:World}{B n k:Nat}{A:Option Addr}{l:List (List UInt8)}(hr:Rd w B 1 A n (strCells l))(hk:k<n):
 ∃ad:Addr,A=some ad∧ad.block<B∧w.cell? (ad.add k)=some (.string (S (l.getD k []))):=by
 have hlen:l.length=n:=by have:=hr.1;simpa[strCells] using this
 obtain⟨ad,u,hA,hb,hu,hc⟩:=hr.at_ hk
 rw[B2Q l k EE] at hu
 obtain rfl:=Aw hu
 exact⟨ad,hA,hb,hc⟩
end Go.Proofs.YtplgghjdidmcfaaGreatDoor
namespace Go.Proofs.YtplgghjdidmcfaaGreatDoor
end Go.Proofs.YtplgghjdidmcfaaGreatDoor
namespace Go.Proofs.YtplgghjdidmcfaaGreatDoor
open Go.RowKit
def A3l(o:Oper):Bool:=
 match o.op with
 | .move _| .assign _| .nilCheck _| .pick .. | .load .. | .binOp .. | .unOp .. | .convert .. | .slice .. | .fieldAddr .. | .field .. | .indexAddr .. | .index .. | .lookup .. | .extract .. | .build .. =>true
 | .call c=>match c.callee with
  | .builtin .len| .builtin .cap| .builtin .min| .builtin .max=>true
  |_=>false
 |_=>false
theorem A8p{P:Program}{s:Sem Value}{w w':World}{n:Next}(h:(do let x←s;pure (Next.value x):Sem Next).run P w= .ok n w'):∃u,n= .value u:=by
 simp only[Sem.run_bind,Sem.run_pure] at h
 cases hs:s.run P w with
 |ok v w1=>rw[hs] at h;simp only[Result.andThen_ok,Result.ok.injEq] at h;exact⟨v,h.1.symm⟩
 |halt x w1=>rw[hs] at h;simp[Result.andThen] at h
theorem A9u{α β:Type}{s:Sem α}{k:α→Sem β}{P:Program}{w w':World}{b:β}(h:(s>>=k).run P w= .ok b w'):∃a w1,(k a).run P w1= .ok b w':=by
 rw[Sem.run_bind] at h
 cases hs:s.run P w with
 |ok a w1=>rw[hs] at h;exact⟨a,w1,h⟩
 |halt x w1=>rw[hs] at h;simp[Result.andThen] at h
theorem A4f(P:Program)(w w':World){n:Next}:¬(runtimePanic .nilDeref:Sem Next).run P w= .ok n w':=by
 intro h
 simp[runtimePanic,goPanic,go_sem] at h
theorem A8q{o:Oper}(hk:A3l o=true){ρ:Operand→Value}{P:Program}{w w':World}{n:Next}(h:(execOp ρ o).run P w= .ok n w'):∃u,n= .value u:=by
 unfold A3l at hk
 unfold execOp at h
 cases ho:o.op<;>rw[ho] at hk h<;>simp only[CQ] at hk<;>dsimp only at h
 case move=>simp only[Sem.run_pure,Result.ok.injEq] at h;exact⟨_,h.1.symm⟩
 case assign=>simp only[Sem.run_pure,Result.ok.injEq] at h;exact⟨_,h.1.symm⟩
 case pick c a b=>
  simp only[Sem.run_bind,Sem.run_pure] at h
  cases hs:(asBool (ρ c)).run P w with
  |ok v w1=>rw[hs] at h;simp only[Result.andThen_ok,Result.ok.injEq] at h;exact⟨_,h.1.symm⟩
  |halt x w1=>rw[hs] at h;simp[Result.andThen] at h
 case nilCheck x=>
  split at h
  ·exact absurd h (A4f _ _ _)
  ·exact absurd h (A4f _ _ _)
  ·exact absurd h (A4f _ _ _)
  ·split at h
   ·exact absurd h (A4f _ _ _)
   ·obtain⟨a,w1,h⟩:=A9u h
    obtain⟨b,w2,h⟩:=A9u h
    split at h
    ·obtain⟨c,w3,h⟩:=A9u h
     exact C1s
    ·exact C1s
   ·exact C1s
  ·exact C1s
 case call c=>
  obtain⟨callee,args,argTypes⟩:=c
  cases callee with
  |builtin b=>
   simp only[resolve,invoke,Sem.run_bind,Sem.run_pure,Result.andThen_ok] at h
   cases b<;>simp only[CQ] at hk<;>exact A8p (by simpa[builtin,Sem.run_bind,Sem.run_pure] using h)
  |_=>simp only[CQ] at hk
 all_goals exact A8p h
section
variable {P:Program} {ops:Array Oper} {Q:Exit→Act→World→Prop} {C:World→Prop}
theorem A3G{o:Oper}{a:Act}{v:Value}(hk:A3l o=true)(hw:Region.wanted o (yielded ops a.tmps)=true)(h:∀w,C w→o.quietAt P a C w v):YieldsIf P ops C o v a:=by
 refine .inl ⟨hw,fun w hC=> ?_⟩
 have h1:=h w hC
 unfold Oper.quietAt at h1
 cases hr:(execOp a.eval o).run P w with
 |ok n w'=>
  rw[hr] at h1
  obtain⟨u,rfl⟩:=A8q hk hr
  simp only[Oper.quietUpon] at h1
  rw[h1.1,h1.2]
 |halt x w'=>rw[hr] at h1;simp only[Oper.quietUpon] at h1
def A2q(C:World→Prop)(K:Act→World→Prop)(Q:Exit→Act→World→Prop):Exit→Act→World→Prop
 | .normal,a,w=>C w∧K a w
 | .exit id,a,w=>Q (.exit id) a w
 | .goto l,a,w=>Q (.goto l) a w
 | .ret,a,w=>Q .ret a w
 | .panic c,a,w=>Q (.panic c) a w
 | .outgrown,a,w=>Q .outgrown a w
structure Shut (p:Prop):Prop where
 out:p
def A0L(P:Program)(ops:Array Oper)(C:World→Prop)(Q:Exit→Act→World→Prop):List (Bool×Oper)→Act→World→Prop
 |[],a,w=>Shut (Q .normal a w)
 |(true,o)::rest,a,w=>Shut (if Region.wanted o (yielded ops a.tmps) then o.quiet P a C (fun a'=>A0L P ops C Q rest a' w) else A0L P ops C Q rest (a.put o.dst undef) w)
 |(false,o)::rest,a,w=>Shut (wpList P ops (A2q C (fun a' w'=>A0L P ops C Q rest a' w') Q) [o] a w)
def A4G(ops:Array Oper):List (Nat×Bool)→Array Bool→Bool
 |[],listed=>(Region.ready .any ops listed).isEmpty
 |(i,true)::rest,listed=>(Region.ready .any ops listed).contains i&&Region.free .any ops listed i&&(match ops[i]? with|some o=>A3l o|none=>false)&&A4G ops rest (listed.setIfInBounds i true)
 |(i,false)::rest,listed=>(Region.ready .any ops listed==[i])&&A4G ops rest (listed.setIfInBounds i true)
def A0i(ops:Array Oper):List (Nat×Bool)→List (Bool×Oper)
 |[]=> []
 |(i,b)::rest=>match ops[i]? with
  |some o=>(b,o)::A0i ops rest
  |none=>A0i ops rest
theorem A7w(hQ:∀c a (d:Tmp) v w,Q (.panic c) (Act.put a (some d) v) w→Q (.panic c) a w)(c:List PanicEntry)(a:Act)(d:Option Tmp)(v:Value)(w:World)(h:Q (.panic c) (Act.put a d v) w):Q (.panic c) a w:=by
 cases d with
 |none=>exact h
 |some d=>exact hQ c a d v w h
theorem A2u(hs:Region.noSelect ops=true)(hQ:∀c a (d:Tmp) v w,Q (.panic c) (Act.put a (some d) v) w→Q (.panic c) a w):
 ∀(σ:List (Nat×Bool)) (listed:Array Bool) (a:Act) (w:World),A4G ops σ listed=true→C w→A0L P ops C Q (A0i ops σ) a w→wpAnyH P .any ops Q C σ.length listed a w
 |[],listed,a,w,hB,_,h=>by
  refine⟨?_,h.out⟩
  simpa[A4G] using hB
 |(i,true)::rest,listed,a,w,hB,hC,h=>by
  simp only[A4G,Ai] at hB
  obtain⟨⟨⟨hr,hf⟩,hk⟩,hB'⟩:=hB
  cases hi:ops[i]? with
  |none=>rw[hi] at hk;simp at hk
  |some o=>
   rw[hi] at hk
   simp only[A0i,hi] at h
   unfold A0L at h
   replace h:=h.out
   by_cases hw:Region.wanted o (yielded ops a.tmps)=true
   ·rw[if_pos hw] at h
    obtain⟨v,h1,h2⟩:=h
    exact wpAnyH_take hi hs hf hr (fun c a w hh=>A7w hQ c a _ _ w hh) (A3G hk hw h1) hC (A2u hs hQ rest _ _ _ hB' hC h2)
   ·rw[if_neg hw] at h
    exact wpAnyH_take hi hs hf hr (fun c a w hh=>A7w hQ c a _ _ w hh) (.inr ⟨by simpa using hw,rfl⟩) hC (A2u hs hQ rest _ _ _ hB' hC h)
 |(i,false)::rest,listed,a,w,hB,hC,h=>by
  simp only[A4G,Ai,At] at hB
  obtain⟨hr,hB'⟩:=hB
  refine wpAnyH_all hr EH fun j hj=> ?_
  obtain rfl:j=i:=by simpa using hj
  cases hi:ops[j]? with
  |none=>
   exfalso
   have hm:j∈Region.ready .any ops listed:=by rw[hr];simp
   obtain⟨_,o,ho,_⟩:=Cb.1 hm
   rw[hi] at ho;cases ho
  |some o=>
   simp only[A0i,hi] at h
   unfold A0L at h
   replace h:=h.out
   unfold wpList at h
   unfold wpOp
   simp only[hi]
   have hlet:LetsOut (A2q C (fun a' w'=>A0L P ops C Q (A0i ops rest) a' w') Q)→LetsOut Q:=fun⟨a,w,hh⟩=>⟨a,w,hh⟩
   by_cases hw:Region.wanted o (yielded ops a.tmps)=true
   ·rw[if_pos hw] at h⊢
    rcases h with h|⟨h1,h2⟩
    ·left
     unfold Oper.wp at h⊢
     generalize(execOp a.eval o).run P w=r at*
     cases r with
     |ok n w'=>
      cases n<;>simp only[Oper.upon] at h⊢
      case enter f args=>
       exact h.mono fun e w'' hh=>by
        cases e with
        |returned v=>exact⟨hh.1,A2u hs hQ rest _ _ _ hB' hh.1 hh.2⟩
        |panicked c=>exact hh
        |outgrown=>exact hlet hh
      case row row args=>exact h.mono fun v w'' hh=>⟨hh.1,A2u hs hQ rest _ _ _ hB' hh.1 hh.2⟩
      all_goals first
       |exact⟨h.1,A2u hs hQ rest _ _ _ hB' h.1 h.2⟩
       |exact h
     |halt x w'=>
      cases x<;>simp only[Oper.upon] at h⊢
      all_goals exact h
    ·exact .inr ⟨h1,hlet h2⟩
   ·rw[if_neg hw] at h⊢
    exact⟨h.1,A2u hs hQ rest _ _ _ hB' h.1 h.2⟩
theorem A8r{id:Nat}{a:Act}{w:World}(σ:List (Nat×Bool))(C:World→Prop)(hm:P.follows .mixedOrders=true)(hs:Region.noSelect ops=true)(hlen:σ.length=ops.size)(hQ:∀c a (d:Tmp) v w,Q (.panic c) (Act.put a (some d) v) w→Q (.panic c) a w)(hB:A4G ops σ (Array.replicate ops.size false)=true)(hC:C w.drew)(h:A0L P ops C Q (A0i ops σ) a w.drew):(Code.region id ops true).wp P Q a w:=
 wp_region_held hm (by rw[←hlen];exact A2u hs hQ σ _ a _ (by rw[hlen];exact hB) hC h)
theorem A0g{a:Act}{w:World}(h:Q .normal a w):A0L P ops C Q [] a w:=⟨h⟩
theorem A6P{a:Act}{w:World}{o:Oper}{rest:List (Bool×Oper)}(hw:Region.wanted o (yielded ops a.tmps)=true)(h:∀K:Act→Prop,(∀a,A0L P ops C Q rest a w→K a)→o.quiet P a C K):A0L P ops C Q ((true,o)::rest) a w:=by
 unfold A0L
 refine⟨?_⟩
 rw[if_pos hw]
 exact h _ (fun _ h=>h)
theorem A6Q{a:Act}{w:World}{o:Oper}{rest:List (Bool×Oper)}(hw:Region.wanted o (yielded ops a.tmps)=false)(h:A0L P ops C Q rest (a.put o.dst undef) w):A0L P ops C Q ((true,o)::rest) a w:=by
 unfold A0L
 refine⟨?_⟩
 rw[if_neg (by rw[hw];simp)]
 exact h
theorem A7N{tmps:Array Value}{o:Oper}(hg:o.guard=none):Region.wanted o (yielded ops tmps)=true:=by unfold Region.wanted;rw[hg]
def A6a:Value→Option Bool
 | .bool c=>some c
 |_=>none
theorem A3i{ops:Array Oper}{tmps:Array Value}{o:Oper}{j:Nat}{b:Bool}(d:Tmp){v:Value}(hg:o.guard=some (j,b))(hd:(ops[j]?).bind (·.dst)=some d)(hv:tmps[d]? =some v):
 Region.wanted o (yielded ops tmps)=(A6a v==some b):=by
 unfold Region.wanted
 rw[hg]
 have e:yielded ops tmps j=A6a v:=by
  unfold yielded
  generalize he:((ops[j]?).bind (·.dst)).bind (tmps[·]?)=x
  have hx:x=some v:=by rw[←he,hd];exact hv
  subst hx
  cases v<;>rfl
 show(yielded ops tmps j==some b)=_
 rw[e]
theorem B9B{a:Act}{w:World}{o:Oper}{rest:List (Bool×Oper)}(hg:o.guard=none)(h:∀K:Act→Prop,(∀a,A0L P ops C Q rest a w→K a)→o.quiet P a C K):A0L P ops C Q ((true,o)::rest) a w:=A6P (A7N hg) h
theorem B9y{a:Act}{w:World}{o:Oper}{rest:List (Bool×Oper)}{j:Nat}{b:Bool}(d:Tmp)(hg:o.guard=some (j,b))(hd:(ops[j]?).bind (·.dst)=some d)(hv:a.tmps[d]? =some (.bool b))(h:∀K:Act→Prop,(∀a,A0L P ops C Q rest a w→K a)→o.quiet P a C K):A0L P ops C Q ((true,o)::rest) a w:=A6P ((A3i d hg hd hv).trans (by simp[A6a])) h
theorem B9z{a:Act}{w:World}{o:Oper}{rest:List (Bool×Oper)}{j:Nat}{b c:Bool}(d:Tmp)(hg:o.guard=some (j,b))(hd:(ops[j]?).bind (·.dst)=some d)(hv:a.tmps[d]? =some (.bool c))(hb:(c==b)=false)(h:A0L P ops C Q rest (a.put o.dst undef) w):A0L P ops C Q ((true,o)::rest) a w:=A6Q ((A3i d hg hd hv).trans (by simpa[A6a] using hb)) h
theorem B9A{a:Act}{w:World}{o:Oper}{rest:List (Bool×Oper)}{j:Nat}{b:Bool}(d:Tmp)(hg:o.guard=some (j,b))(hd:(ops[j]?).bind (·.dst)=some d)(hv:a.tmps[d]? =some undef)(h:A0L P ops C Q rest (a.put o.dst undef) w):A0L P ops C Q ((true,o)::rest) a w:=A6Q ((A3i d hg hd hv).trans rfl) h
theorem A0a{a:Act}{w:World}{o:Oper}{rest:List (Bool×Oper)}(h:wpList P ops (A2q C (fun a' w'=>A0L P ops C Q rest a' w') Q) [o] a w):A0L P ops C Q ((false,o)::rest) a w:=⟨h⟩
theorem Dt{a:Act}{w:World}{o:Oper}{rest:List (Bool×Oper)}(h:∀K:Act→Prop,(∀a,A0L P ops C Q rest a w→K a)→o.quiet P a C K)(hg:o.guard=none:=by exact rfl):A0L P ops C Q ((true,o)::rest) a w:=B9B hg h
theorem Du{a:Act}{w:World}{o:Oper}{rest:List (Bool×Oper)}{j:Nat}{b:Bool}{d:Tmp}(h:∀K:Act→Prop,(∀a,A0L P ops C Q rest a w→K a)→o.quiet P a C K)(hg:o.guard=some (j,b):=by exact rfl)(hd:(ops[j]?).bind (·.dst)=some d:=by exact rfl)(hv:a.tmps[d]? =some (.bool b):=by exact rfl):A0L P ops C Q ((true,o)::rest) a w:=B9y d hg hd hv h
theorem Dv{a:Act}{w:World}{o:Oper}{rest:List (Bool×Oper)}{j:Nat}{b c:Bool}{d:Tmp}(h:A0L P ops C Q rest (a.put o.dst undef) w)(hg:o.guard=some (j,b):=by exact rfl)(hd:(ops[j]?).bind (·.dst)=some d:=by exact rfl)(hv:a.tmps[d]? =some (.bool c):=by exact rfl)(hb:(c==b)=false:=by exact rfl):A0L P ops C Q ((true,o)::rest) a w:=B9z d hg hd hv hb h
theorem Dw{a:Act}{w:World}{o:Oper}{rest:List (Bool×Oper)}{j:Nat}{b:Bool}{d:Tmp}(h:A0L P ops C Q rest (a.put o.dst undef) w)(hg:o.guard=some (j,b):=by exact rfl)(hd:(ops[j]?).bind (·.dst)=some d:=by exact rfl)(hv:a.tmps[d]? =some undef:=by exact rfl):A0L P ops C Q ((true,o)::rest) a w:=B9A d hg hd hv h
end
structure Wof (F:World→Prop) where
 w:World
 h:F w
theorem B7y{P:Program}{ops:Array Oper}{Q:Exit→Act→World→Prop}{id:Nat}{a:Act}{w:World}(σ:List (Nat×Bool))(F:World→Prop)(hm:P.follows .mixedOrders=true)(hs:Region.noSelect ops=true)(hlen:σ.length=ops.size)(hQ:∀c a (d:Tmp) v w,Q (.panic c) (Act.put a (some d) v) w→Q (.panic c) a w)(hB:A4G ops σ (Array.replicate ops.size false)=true)(hF:F w)(hd:F w→F w.drew)(h:Nonempty (Wof F)→A0L P ops (fun w'=>∃p:Wof F,w'=p.w) Q (A0i ops σ) a w.drew):(Code.region id ops true).wp P Q a w:=
 A8r σ _ hm hs hlen hQ hB ⟨⟨_,hd hF⟩,rfl⟩ (h ⟨⟨_,hF⟩⟩)
theorem B4e{F:World→Prop}{K:Act→World→Prop}{Q:Exit→Act→World→Prop}{a:Act}{w:World}(hF:F w)(h:K a w):A2q (fun w'=>∃p:Wof F,w'=p.w) K Q .normal a w:=⟨⟨⟨w,hF⟩,rfl⟩,h⟩
theorem cells1(a0:Addr)(v0:Value):∃F:World→Prop,Hid (F=fun w'=>w'.cell? a0=some v0)∧(∀p':Wof F,p'.w.cell? a0=some v0):=⟨_,rfl,fun p=>p.h⟩
theorem cells2(a0:Addr)(v0:Value)(a1:Addr)(v1:Value):∃F:World→Prop,Hid (F=fun w'=>w'.cell? a0=some v0∧w'.cell? a1=some v1)∧(∀p':Wof F,p'.w.cell? a0=some v0)∧(∀p':Wof F,p'.w.cell? a1=some v1):=⟨_,rfl,fun p=>p.h.1,fun p=>p.h.2⟩
theorem cells3(a0:Addr)(v0:Value)(a1:Addr)(v1:Value)(a2:Addr)(v2:Value):∃F:World→Prop,Hid (F=fun w'=>w'.cell? a0=some v0∧w'.cell? a1=some v1∧w'.cell? a2=some v2)∧(∀p':Wof F,p'.w.cell? a0=some v0)∧(∀p':Wof F,p'.w.cell? a1=some v1)∧(∀p':Wof F,p'.w.cell? a2=some v2):=⟨_,rfl,fun p=>p.h.1,fun p=>p.h.2.1,fun p=>p.h.2.2⟩
theorem cells6(a0:Addr)(v0:Value)(a1:Addr)(v1:Value)(a2:Addr)(v2:Value)(a3:Addr)(v3:Value)(a4:Addr)(v4:Value)(a5:Addr)(v5:Value):∃F:World→Prop,Hid (F=fun w'=>w'.cell? a0=some v0∧w'.cell? a1=some v1∧w'.cell? a2=some v2∧w'.cell? a3=some v3∧w'.cell? a4=some v4∧w'.cell? a5=some v5)∧(∀p':Wof F,p'.w.cell? a0=some v0)∧(∀p':Wof F,p'.w.cell? a1=some v1)∧(∀p':Wof F,p'.w.cell? a2=some v2)∧(∀p':Wof F,p'.w.cell? a3=some v3)∧(∀p':Wof F,p'.w.cell? a4=some v4)∧(∀p':Wof F,p'.w.cell? a5=some v5):=⟨_,rfl,fun p=>p.h.1,fun p=>p.h.2.1,fun p=>p.h.2.2.1,fun p=>p.h.2.2.2.1,fun p=>p.h.2.2.2.2.1,fun p=>p.h.2.2.2.2.2⟩
theorem cells12(a0:Addr)(v0:Value)(a1:Addr)(v1:Value)(a2:Addr)(v2:Value)(a3:Addr)(v3:Value)(a4:Addr)(v4:Value)(a5:Addr)(v5:Value)(a6:Addr)(v6:Value)(a7:Addr)(v7:Value)(a8:Addr)(v8:Value)(a9:Addr)(v9:Value)(a10:Addr)(v10:Value)(a11:Addr)(v11:Value):∃F:World→Prop,Hid (F=fun w'=>w'.cell? a0=some v0∧w'.cell? a1=some v1∧w'.cell? a2=some v2∧w'.cell? a3=some v3∧w'.cell? a4=some v4∧w'.cell? a5=some v5∧w'.cell? a6=some v6∧w'.cell? a7=some v7∧w'.cell? a8=some v8∧w'.cell? a9=some v9∧w'.cell? a10=some v10∧w'.cell? a11=some v11)∧(∀p':Wof F,p'.w.cell? a0=some v0)∧(∀p':Wof F,p'.w.cell? a1=some v1)∧(∀p':Wof F,p'.w.cell? a2=some v2)∧(∀p':Wof F,p'.w.cell? a3=some v3)∧(∀p':Wof F,p'.w.cell? a4=some v4)∧(∀p':Wof F,p'.w.cell? a5=some v5)∧(∀p':Wof F,p'.w.cell? a6=some v6)∧(∀p':Wof F,p'.w.cell? a7=some v7)∧(∀p':Wof F,p'.w.cell? a8=some v8)∧(∀p':Wof F,p'.w.cell? a9=some v9)∧(∀p':Wof F,p'.w.cell? a10=some v10)∧(∀p':Wof F,p'.w.cell? a11=some v11):=⟨_,rfl,fun p=>p.h.1,fun p=>p.h.2.1,fun p=>p.h.2.2.1,fun p=>p.h.2.2.2.1,fun p=>p.h.2.2.2.2.1,fun p=>p.h.2.2.2.2.2.1,fun p=>p.h.2.2.2.2.2.2.1,fun p=>p.h.2.2.2.2.2.2.2.1,fun p=>p.h.2.2.2.2.2.2.2.2.1,fun p=>p.h.2.2.2.2.2.2.2.2.2.1,fun p=>p.h.2.2.2.2.2.2.2.2.2.2.1,fun p=>p.h.2.2.2.2.2.2.2.2.2.2.2⟩
theorem EB{P:Program}{ops:Array Oper}{Q:Exit→Act→World→Prop}{id:Nat}{a:Act}{w:World}(σ:List (Nat×Bool)){F f:World→Prop}(HF:Hid (F=f))(h:Nonempty (Wof F)→A0L P ops (fun w'=>∃p:Wof F,w'=p.w) Q (A0i ops σ) a w.drew)(hm:P.follows .mixedOrders=true:=by kernel_rfl)(hs:Region.noSelect ops=true:=by kernel_rfl)(hlen:σ.length=ops.size:=by exact rfl)(hQ:∀c a (d:Tmp) v w,Q (.panic c) (Act.put a (some d) v) w→Q (.panic c) a w:=by exact fun _ _ _ _ _ h=>h)(hB:A4G ops σ (Array.replicate ops.size false)=true:=by kernel_rfl)(hF:f w:=by first|((repeat' apply And.intro)<;>assumption)|trivial|(simp;done)|(simp[*];done))(hd:f w→f w.drew:=by exact fun h=>h):(Code.region id ops true).wp P Q a w:=B7y σ F hm hs hlen hQ hB (by rw[HF];exact hF) (by rw[HF];exact hd) h
theorem ED{F f:World→Prop}(HF:Hid (F=f)){K:Act→World→Prop}{Q:Exit→Act→World→Prop}{a:Act}{w:World}(h:K a w)(hF:f w:=by first|((repeat' apply And.intro)<;>assumption)|trivial|(simp;done)|(go_simp;done)|(simp[*];done)):A2q (fun w'=>∃p:Wof F,w'=p.w) K Q .normal a w:=B4e (by rw[HF];exact hF) h
end Go.Proofs.YtplgghjdidmcfaaGreatDoor
