/- Written anew, smaller, by a program of our own out of our texts. No condition of our own. -/
import Derived.Test.YtplgghjdidmcfaaGreatDoorQ22
import Derived.Test.YtplgghjdidmcfaaGreatDoorQ01
import Derived.Maps.Own
import Derived.Maps.OwnOps
import Derived.Maps.OwnSet
import Derived.Test.YtplgghjdidmcfaaGreatDoorQ20
set_option maxRecDepth 100000
set_option maxHeartbeats 16000000
set_option linter.all false
namespace Go.Proofs.YtplgghjdidmcfaaGreatDoor
open Go.RowKit
theorem B0B{w:List UInt8}(h:(askN w).1≠0):(w=kPer∨w=A0G∨w=A0v∨w=A0H∨w=kFar):=by
 by_cases h1:w=kPer
 ·exact .inl h1
 by_cases h2:w=A0G
 ·exact .inr (.inl h2)
 by_cases h3:w=A0v
 ·exact .inr (.inr (.inl h3))
 by_cases h4:w=A0H
 ·exact .inr (.inr (.inr (.inl h4)))
 by_cases h5:w=kFar
 ·exact .inr (.inr (.inr (.inr h5)))
 exact absurd (by unfold askN;simp[h1,h2,h3,h4,h5]) h
theorem A4Q{w:List UInt8}{n:Nat}(h:askK w n≠0):(n=1∧(w=kPer∨w=A0v∨w=A0H))∨(n=2∧(w=A0G∨w=kFar)):=by
 unfold askK at h
 split at h
 ·rename_i he
  rcases B0B h with e|e|e|e|e<;>subst e<;>revert he<;>simp only[show(askN kPer).2=1 by decide,show(askN A0G).2=2 by decide,show(askN A0v).2=1 by decide,show(askN A0H).2=1 by decide,show(askN kFar).2=2 by decide]<;>intro he<;>subst he<;>simp
 ·exact absurd rfl h
theorem A7p{w:List UInt8}{r:List (List UInt8)}(h:askK w r.length=0):askE w r=12:=by unfold askE;rw[if_pos h]
theorem B6V(x0:List UInt8)(r:List (List UInt8))(b o c:Nat)(w:World)(hbw:b<w.heap.size)(ht:TabI w)(hl9:∀x∈r,x≠ [])(hc9:∀j (_:j<(x0::r).length),w.cell? ⟨b,o+j,none⟩=some (.string (S ((x0::r).getD j [])))):
 Calls Tryz.prog 97 #[.slice (some ⟨b,o,none⟩) (r.length+1) c] w fun e w'=>e=askA x0 r∧Below w.heap.size w w':=by
 have c0:=hc9 0 EH
 simp only[CN,Ae] at c0
 by_cases h0:askK x0 r.length=0
 ·rw[A3X (A7p h0) EF]
  by_cases h1:r.length=0
  ·exact B6j _ _ _ _ EE
  ·exact B4C x0 b o (r.length+1) c w.heap.size w EE h0 hbw (AD _) c0
 rcases A4Q h0 with⟨hl,hw⟩|⟨hl,hw⟩
 ·obtain⟨x,rfl⟩:∃x,r=[x]:=by
   match r,hl with
   |[x],_=>exact⟨x,rfl⟩
  have c1:=hc9 1 EH
  simp only[BF,Ae] at c1
  rcases hw with rfl|rfl|rfl
  ·exact B6k x b o c w.heap.size w hbw (AD _) c0 c1 ht
  ·exact B3d x b o c w.heap.size w hbw (AD _) c0 c1
  ·exact B4B x b o c w.heap.size w hbw (AD _) c0 c1 ht
 ·obtain⟨x,y,rfl⟩:∃x y,r=[x,y]:=by
   match r,hl with
   |[x,y],_=>exact⟨x,y,rfl⟩
  have c1:=hc9 1 EH
  have c2:=hc9 2 EH
  simp only[BF,Ae] at c1 c2
  have hy:0<y.length:=BO.2 (hl9 y EH)
  rcases hw with rfl|rfl
  ·exact B4A x y hy b o c w.heap.size w hbw (AD _) c0 c1 c2 ht
  ·exact B6l x y hy b o c w.heap.size w hbw (AD _) c0 c1 c2 ht
end Go.Proofs.YtplgghjdidmcfaaGreatDoor
namespace Go.Proofs.YtplgghjdidmcfaaGreatDoor
open Go.RowKit Go.Maps
theorem B2A:Keyed Tryz.prog 9:=string_keyed Tryz.underlying9
theorem A7q{P:Program}{k:TypeId}(hk:P.underlying k=some .string){s:ByteArray}(hs:s.size≤maxLen):keyOf P k (.string s)=some (.string (L s)):=by
 simp[keyOf,hk,mapKey,hs,L]
theorem zeroI(w:World):(zeroValue 3).run Tryz.prog w= .ok (.int .i64 0) w:=by kernel_rfl
def MapSI(w:World)(b n:Nat)(f:List UInt8→Option Int):Prop:=
 ∃D:DataW Unit,w.ownsMap Tryz.prog 9 (plainElem Tryz.prog 3) b n D∧IsMap D∧(∀t,Maps.has D (.string t)=(f t).isSome)∧∀t,D.atKey (.string t) (.lit (.int .i64 0))= .lit (.int .i64 ((f t).getD 0))
section
variable {w w':World} {b n:Nat} {f:List UInt8→Option Int}
theorem MapSI.made(w:World):MapSI (w.alloc (.map #[] 0)) w.heap.size 0 (fun _=>none):=
 ⟨.map [],World.ownsMap_made _ _ _ _,isMap_empty,fun _=>rfl,fun _=>rfl⟩
theorem MapSI.ext{g:List UInt8→Option Int}(h:MapSI w b n f)(e:∀t,f t=g t):MapSI w b n g:=by
 obtain rfl:f=g:=funext e;exact h
theorem MapSI.look(h:MapSI w b n f)(s:ByteArray)(hs:s.size≤maxLen):(Instr.lookup 170 (.map (some b)) (.string s) false).run Tryz.prog w= .ok (.int .i64 ((f (L s)).getD 0)) w:=by
 obtain⟨D,h,_,_,h3⟩:=h
 obtain⟨c,hrun,hat,_⟩:=h.lookup_int B2A Tryz.underlying170 Tryz.underlying3 (zeroI _) (A7q Tryz.underlying9 hs)
 rw[h3] at hat
 simp only[DataW.lit.injEq,Lit.int.injEq,true_and] at hat
 rw[hat];exact hrun
theorem MapSI.look_ok(h:MapSI w b n f)(s:ByteArray)(hs:s.size≤maxLen):(Instr.lookup 170 (.map (some b)) (.string s) true).run Tryz.prog w= .ok (.tuple #[.int .i64 ((f (L s)).getD 0),.bool (f (L s)).isSome]) w:=by
 obtain⟨D,h,_,h2,h3⟩:=h
 obtain⟨v,ps,hrun,hv⟩:=h.look_ok B2A Tryz.underlying170 (zeroI _) (plainElem_int Tryz.underlying3 EF) (A7q Tryz.underlying9 hs)
 obtain⟨c,rfl,hc,_⟩:=plainElem_int_inv Tryz.underlying3 hv
 have hc:=congrArg Prod.fst hc
 simp only[h3,DataW.lit.injEq,Lit.int.injEq,true_and] at hc
 rw[hc,←h2];exact hrun
theorem MapSI.update(h:MapSI w b n f)(hn:n<maxLen)(s:ByteArray)(hs:s.size≤maxLen)(v:Int)(hv:(Lit.int .i64 v).wf=true):
 ∃w',(Instr.mapUpdate 170 (.map (some b)) (.string s) (.int .i64 v)).run Tryz.prog w= .ok () w'∧MapSI w' b (n+1) (fun t=>if t=L s then some v else f t)∧w.grownBy w' (some b):=by
 obtain⟨D,h,h1,h2,h3⟩:=h
 obtain⟨w',hrun,hown,hg⟩:=h.update B2A Tryz.underlying170 hn (A7q Tryz.underlying9 hs) (plainElem_int Tryz.underlying3 hv)
 have hk:WideAt.IsKeyLit (.string (L s)):=trivial
 refine⟨w',hrun,⟨_,hown,h1.put _ _,fun t=> ?_,fun t=> ?_⟩,hg⟩
 ·by_cases ht:t=L s
  ·subst ht;simp only[DJ];exact has_put_same h1 hk _
  ·simp only[ht,CD];rw[has_put_other (fun e=>ht (by injection e)),h2]
 ·by_cases ht:t=L s
  ·subst ht;simp only[DJ];exact atKey_put_same h1 hk _ _
  ·simp only[ht,CD];rw[atKey_put_other (fun e=>ht (by injection e)),h3]
theorem MapSI.insert(h:MapSI w b n f)(hn:n<maxLen)(s:ByteArray)(hs:s.size≤maxLen)(v:Int)(hv:(Lit.int .i64 v).wf=true){ops:Array Oper}{rest:List Oper}{o:Oper}{a:Act}{Q:Exit→Act→World→Prop}(hg:o.guard=none)(m x y:Operand)(hop:o.op=Op.insert 170 m x y)(hm:a.eval m= .map (some b))(hx:a.eval x= .string s)(hy:a.eval y= .int .i64 v)(hK:∀w',MapSI w' b (n+1) (fun t=>if t=L s then some v else f t)→w.grownBy w' (some b)→wpList Tryz.prog ops Q rest (a.put o.dst undef) w'):wpList Tryz.prog ops Q (o::rest) a w:=by
 refine wpList_plain hg fun K' hK'=> ?_
 obtain⟨w',hrun,r1,r2⟩:=h.update hn s hs v hv
 unfold Oper.wp
 simp[execOp,hop,hm,hx,hy,hrun,Result.andThen]
 exact hK' _ _ (hK w' r1 r2)
end
end Go.Proofs.YtplgghjdidmcfaaGreatDoor
namespace Go.Proofs.YtplgghjdidmcfaaGreatDoor
open Go.RowKit
theorem B9h(s p:ByteArray)(i:Nat):((s.extract i (i+p.size)).toList==p.toList)=hitB (L s) (L p) i:=by
 rw[beqB,hitB,A0e,BR,As,As,A2E,Bw]
 constructor
 ·intro h;have:=congrArg L h;rwa[L_S] at this
 ·intro h;rw[h];rfl
theorem B4S(s p:List UInt8)(n:Nat):A1m s p (n+1)=A1m s p n++if hitB s p n=true then [(n:Int)] else []:=by
 unfold A1m
 rw[A8L,BM]
 congr 1
 split<;>rfl
theorem B4T(s p:ByteArray)(hs:s.size≤200)(hp:p.size≤200)(w:World):
 Calls Tryz.prog 157 #[.string s,.string p] w fun e w'=>∃v,e= .returned v∧w'.ownsRow w.heap.size 3 1 v (A1m (L s) (L p) (s.size+1-p.size)).length (ints (A1m (L s) (L p) (s.size+1-p.size)))∧Below w.heap.size w w':=by
 obtain⟨i0,hi0,hz0,hz1,hz2⟩:=info_parts A1E
 obtain⟨N,hN⟩:∃N,s.size+1-p.size=N:=⟨_,rfl⟩
 have HNN:=AA hN
 go_enter Tryz.func157,Tryz.ntmps157
 go_wp2_with fail
 go_loopw [6,5] (fun iv ov wr=>∃i:Nat,i≤N∧iv= .int .i64 (i:Int)∧wr.ownsRow w.heap.size 3 1 ov (A1m (L s) (L p) i).length (ints (A1m (L s) (L p) i))∧Below w.heap.size w wr) (fun iv _ _=>N-(intOf iv).toNat)
 case atStart=>exact⟨0,AS _,rfl,Ad _ _ _ _,AI _ _⟩
 case round=>
  obtain⟨i,hi,rfl,hown,hb⟩:=hrel
  by_cases hlt:i<N
  ·have g1:decide ((i:Int)+(p.size:Int)≤(s.size:Int))=true:=AG EE
   have gx:((i:Int)+(p.size:Int)).toNat=i+p.size:=EE
   have hroom:i+p.size≤s.size:=EE
   have HST:=AA (B4S (L s) (L p) i)
   have HEQ:=AA (B9h s p i)
   have hfl:=B0n (L s) (L p) i
   have hfl2:=A7i (L s) (L p) i
   obtain⟨F,hF⟩:∃F,A1m (L s) (L p) i=F:=⟨_,rfl⟩
   rw[hF] at hown HST hfl2
   have hFb:F.length≤201:=EE
   clear hF hfl hfl2 hN
   have HOWN:=AA hown
   clear hown
   cases hh:hitB (L s) (L p) i with
   |true=>
    rw[hh] at HEQ HST
    have g2:((s.extract i (i+p.size)).toList==p.toList)=true:=HEQ.out
    have HNX:Hid (A1m (L s) (L p) (i+1)=F++ [(i:Int)]):=by
     have h:=HST.out
     rw[if_pos rfl] at h
     exact h
    clear HEQ HST hh
    go_wp2_with (at_builtin;go_must (refine A0r rfl _ _ _ rfl w.heap.size 3 i0 _ 1 8 Tryz.underlying91 hi0 hz0 hz1 hz2 rfl EE _ F.length (ints F) rfl (BE (w:=wr) HOWN.out _) ⟨wr.heap.size,0,none⟩ 1 1 [.int .i64 ((i:Int))] rfl rfl (BL _ _ _) (by simp[Value.oneCell']) EE EE (by have:=(hb).size;simp at this⊢;omega) ?_);intro v6 w6 hown6 hg6 hb6;have hb6':=((hb).alloc (hb).size _).trans hb6)
    clear hg6 hb6
    go_roundw
    case rel=>
     refine⟨i+1,by omega,by go_num, ?_,hb6'⟩
     rw[HNX.out,AJ,Ah,A7j]
     exact hown6
    case measure=>simp[intOf];omega
   |false=>
    rw[hh] at HEQ HST
    have g2:((s.extract i (i+p.size)).toList==p.toList)=false:=HEQ.out
    have HNX:Hid (A1m (L s) (L p) (i+1)=F):=by
     have h:=HST.out
     rw[if_neg EF,Aq] at h
     exact h
    clear HEQ HST hh
    go_wp2_with fail
    go_roundw
    case rel=>
     refine⟨i+1,by omega,by go_num, ?_,hb⟩
     rw[HNX.out]
     exact HOWN.out
    case measure=>simp[intOf];omega
  ·obtain rfl:i=N:=EE
   have g1:decide ((i:Int)+(p.size:Int)≤(s.size:Int))=false:=AC EE
   have hiB:i≤201:=EE
   clear hN
   go_wp2_with fail
   go_ret
   rw[HNN.out]
   exact⟨_,rfl,hown,hb⟩
end Go.Proofs.YtplgghjdidmcfaaGreatDoor
