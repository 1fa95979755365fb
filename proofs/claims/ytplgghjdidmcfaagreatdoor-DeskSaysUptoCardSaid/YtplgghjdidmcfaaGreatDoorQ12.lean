/- Written anew, smaller, by a program of our own out of our texts. No condition of our own. -/
import Derived.Test.YtplgghjdidmcfaaGreatDoorQ11
import Derived.Test.YtplgghjdidmcfaaGreatDoorQ04
import Derived.Test.YtplgghjdidmcfaaGreatDoorQShelf
import Derived.Test.YtplgghjdidmcfaaGreatDoorQ03
import Derived.Lib.Builder
import Derived.Lib.AppendStr
import Derived.Test.YtplgghjdidmcfaaGreatDoorQ10
set_option maxRecDepth 100000
set_option maxHeartbeats 16000000
set_option linter.all false
namespace Go.Proofs.YtplgghjdidmcfaaGreatDoor
open Go.RowKit
theorem C1j{P:Prop}(h:P:=by
 have e1:Lib.byteCells (l++L s)=Lib.byteCells l++Lib.strCells s:=by
  simp[Lib.byteCells,Lib.strCells,L]
 rw[e1]
 exact Lib.BuilderAt.put (T:=213) (e:=5) hB hb2 (bs':=Lib.byteCells l++Lib.strCells s) (by rw[AJ,Lib.strCells_length,hbl];exact hown') EF
 ):P:=h
theorem C1p{P:Prop}(h:P:=by
 have HD:Hid (appD d rec=d):=by unfold Hid appD;rw[HE.out,if_neg EF]
 go_enter Tryz.func63,Tryz.ntmps63
 go_wp2_with fail
 (apply bodyPost_ret;(simp[results,Tryz.results63,go_sem];rfl);rfl)
 exact⟨by rw[HE.out,HD.out],Ds⟩
 ):P:=h
theorem C1T{P:Prop}(h:P:=by
 exact(hb1.grown hgrow (by have:=hb1.size;omega) (fun k hk=>(hown.lt k hk).1)).setCell (p:=⟨b,1,none⟩) hB _
 ):P:=h
theorem C2b{P:Prop}(h:P:=by
 rcases hown'.2 with⟨hv,_⟩|⟨g,cap,cur,hv,_⟩
 ·exact⟨_,_,_,hv⟩
 ·exact⟨_,_,_,hv⟩
 ):P:=h
theorem A4T{α:Type}{l:List α}{k:Nat}(h:k<l.length):l.drop k=l[k]::l.drop (k+1):=Ag h
def A5b(s:ByteArray)(l:List Ed):ByteArray:=if A0n s.size l=0 then S (A0C (L s) l) else S []
theorem B5O{a b:ByteArray}{x y:Int}(h:a=b)(k:x=y):Ending.returned (.tuple #[.string a,.int .i64 x])= .returned (.tuple #[.string b,.int .i64 y]):=by rw[h,k]
structure ApAt (s:List UInt8) (l:List Ed) (k p:Nat) (out:List UInt8):Prop where
 le:k≤l.length
 chain:∃q,Chain s.length q (l.drop k)∧after p q
 pn:p≤s.length
 eq:out++edTo s p (l.drop k)=edTo s 0 l
theorem ApAt.start{s:List UInt8}{l:List Ed}(h:A0n s.length l=0):ApAt s l 0 0 []:=⟨AS _,⟨none,(A2o.1 h).2.2.2.1,rfl⟩,AS _,rfl⟩
theorem ApAt.bounds{s:List UInt8}{l:List Ed}{k p:Nat}{out:List UInt8}(h:ApAt s l k p out)(hk:k<l.length):(p:Int)≤l[k].at_∧0≤l[k].del∧l[k].at_+l[k].del≤s.length∧l[k].ins.length≤40:=by
 obtain⟨q,hc,ha⟩:=h.chain
 rw[A4T hk] at hc
 cases hc with
 |cons _ _ _ h0 hc=>
  obtain⟨h1,h2,h3,h4,h5,h6,h7⟩:=A3x h0
  refine⟨?_,h2,h4,h5⟩
  cases q with
  |none=>simp only[after] at ha;omega
  |some e=>simp only[after] at ha;have:=h7 e rfl;omega
theorem ApAt.step{s:List UInt8}{l:List Ed}{k p:Nat}{out:List UInt8}(h:ApAt s l k p out)(hk:k<l.length):
 ApAt s l (k+1) (l[k].at_+l[k].del).toNat (out++((s.drop p).take (l[k].at_.toNat-p)++l[k].ins)):=by
 have hb:=h.bounds hk
 obtain⟨q,hc,ha⟩:=h.chain
 have he:=h.eq
 rw[A4T hk] at hc he
 cases hc with
 |cons _ _ _ h0 hc=>
  refine⟨hk,⟨_,hc,by simp only[after];omega⟩,by omega, ?_⟩
  rw[←he];simp[edTo]
theorem ApAt.fin{s:List UInt8}{l:List Ed}{p:Nat}{out:List UInt8}(h:ApAt s l l.length p out):out++s.drop p=edTo s 0 l:=by
 have:=h.eq
 rwa[DE] at this
theorem ApAt.len{s:List UInt8}{l:List Ed}{k p:Nat}{out:List UInt8}(h:ApAt s l k p out)(h0:A0n s.length l=0):out.length≤200∧(edTo s 0 l).length≤200:=by
 obtain⟨_,_,_,hc,hf⟩:=A2o.1 h0
 have hl:=A4z rfl hc (k:=0) rfl (AS _)
 have:=congrArg List.length h.eq
 rw[AJ] at this
 omega
theorem A5T(s:ByteArray)(l:List Ed)(A:Option Addr)(m c B:Nat)(w:World)(hr:Rd w B 3 A m (A0f l))(hB:B≤w.heap.size)(hm:m≤9223372036854775807)(hs:s.size≤140737488351232):
 Calls Tryz.prog 116 #[.string s,.slice A m c] w fun e w'=>e= .returned (.tuple #[.string (A5b s l),.int .i64 (A0n s.size l)])∧Below w.heap.size w w':=by
 have hlen:=Rd.rec_len A2v EE hr
 have HR:=AA hr;clear hr
 have HL:=AA hlen;clear hlen
 by_cases hE:A0n s.size l=0
 ·have g1:(A0n s.size l !=0)=false:=by rw[hE];rfl
  have HE:=AA hE
  have HE':Hid (A0n (L s).length l=0):=by unfold Hid;rw[A0e];exact hE
  have hz:=(A2o.1 hE).2.1
  clear hE
  go_enter Tryz.func116,Tryz.ntmps116
  go_wp2_with fail
  refine(A7O s.size l A m c B w HR.out hB hm).mono ?_
  rintro e w1 ⟨rfl,hb1⟩
  go_wp2_with fail
  go_loopw [7,8,20] (fun o a i wr=>∃(k p:Nat) (out:List UInt8),ApAt (L s) l k p out∧i= .int .i64 k∧a= .int .i64 p∧o= .string (S out)∧Below w.heap.size w wr) (fun _ _ i _=>m-(intOf i).toNat)
  case atStart=>exact⟨0,0,[],ApAt.start HE'.out,rfl,rfl,rfl,hb1⟩
  case round=>
   obtain⟨k,p,out,HA,rfl,rfl,rfl,hb⟩:=hrel
   have hk:=HA.le
   rw[HL.out] at hk
   have hbs:=hb.size
   have hpn:=HA.pn
   rw[A0e] at hpn
   have hol:=(HA.len HE'.out).1
   have hos:(S out).size≤200:=by rw[A0b];exact hol
   by_cases hlt:k<m
   ·obtain⟨ad,hl,rfl,hab,c0,c1,c2⟩:=(HR.out.below (hb.mono hB)).at_ed hlt
    obtain⟨b0,b1,b2,b3⟩:=HA.bounds hl
    have HST:=AA (HA.step hl)
    clear HA
    rw[A0e] at b2
    have hz3:(S l[k].ins).size≤40:=by rw[A0b];exact b3
    generalize l[k]=x at*
    obtain⟨xa,xd,xi⟩:=x
    simp only at c0 c1 c2 b0 b1 b2 b3 HST hz3
    obtain⟨xa,rfl⟩:=BV (show 0≤xa by omega)
    obtain⟨xd,rfl⟩:=BV b1
    have b4:p≤xa:=EE
    have b5:xa+xd≤s.size:=EE
    have hz4:(s.extract p xa).size≤200:=by rw[Ak];omega
    have HEX:Hid (s.extract p xa++S xi=S (((L s).drop p).take (xa-p)++xi)):=by
     unfold Hid;rw[A1i,A0x,L_S]
    go_wp2_with fail
    go_quiet (fail)
    go_wp2_with fail
    go_roundw
    case rel=>exact⟨k+1,xa+xd,_,HST.out,by go_num,by go_num,by rw[HEX.out,A1i,L_S,L_S];rfl,Ds⟩
    case measure=>simp[intOf];omega
   ·obtain rfl:k=m:=EE
    have HF:Hid (out++(L s).drop p=edTo (L s) 0 l):=by
     unfold Hid
     have:=HA
     rw[show k=l.length from HL.out.symm] at this
     exact this.fin
    have HD:=AA (A5B HE'.out)
    have hz4:(s.extract p s.size).size≤200:=by rw[Ak];omega
    clear HA
    go_wp2_with fail
    go_ret2
    exact⟨B5O (by unfold A5b;rw[if_pos HE.out,HD.out,←HF.out,A1i,L_S,A0x,AX (by rw[AZ,A0e];exact AD _)]) (by first|rfl|exact HE.out.symm),hb⟩
 ·have g1:(A0n s.size l !=0)=true:=by simpa using hE
  have HE:=AA hE;clear hE
  go_enter Tryz.func116,Tryz.ntmps116
  go_wp2_with fail
  refine(A7O s.size l A m c B w HR.out hB hm).mono ?_
  rintro e w1 ⟨rfl,hb1⟩
  go_wp2_with fail
  go_ret2
  exact⟨B5O (by unfold A5b;rw[if_neg HE.out];rfl) rfl,hb1⟩
theorem A7A:(Tryz.prog.info? 95).map (fun i=>(i.zero,i.size,i.bytes))=some (some (.agg #[.int .i64 0,.int .i64 0,.string ByteArray.empty]),3,32):=by kernel_rfl
theorem A3z(a b:List Ed):A0f (a++b)=A0f a++A0f b:=by simp[A0f]
end Go.Proofs.YtplgghjdidmcfaaGreatDoor
namespace Go.Proofs.YtplgghjdidmcfaaGreatDoor
open Go.RowKit Go.Proofs
theorem B3z:(Tryz.prog.info? 213).map (·.size)=some 2:=by kernel_rfl
theorem B3A:(Tryz.prog.info? 5).map (fun i=>(i.zero,i.size,i.bytes))=some (some (.int .u8 0),1,1):=by kernel_rfl
theorem A6E(b:Nat)(w:World)(h0:w.cell? ⟨b,0,none⟩=some (.pointer (some ⟨b,0,none⟩))):
 Calls Tryz.prog 186 #[.pointer (some ⟨b,0,none⟩)] w fun e w'=>e= .returned (.tuple #[])∧w'=w:=by
 obtain⟨j,hj,_⟩:=CZ.1 B3z
 go_enter Tryz.func186,Tryz.ntmps186
 go_wp2
 rw[Lib.run_neq_ptr_same w _ Tryz.underlying211 hj]
 go_wp2
 go_end0
 exact⟨rfl,rfl⟩
theorem A6c(b:Nat)(w:World)(h0:w.cell? ⟨b,0,none⟩=some (.pointer none))(hsh:w.shape? b=some (213,2))(hfz:w.frozen? ⟨b,0,none⟩=false):
 Calls Tryz.prog 186 #[.pointer (some ⟨b,0,none⟩)] w fun e w'=>e= .returned (.tuple #[])∧w'=w.setCell ⟨b,0,none⟩ (.pointer (some ⟨b,0,none⟩)):=by
 obtain⟨j,hj,hjs⟩:=CZ.1 B3z
 go_enter Tryz.func186,Tryz.ntmps186
 go_wp2
 rw[Lib.run_to_unsafe w ⟨b,0,none⟩ Tryz.underlying211 Tryz.underlying143 hj (by rw[hjs];decide) hsh (Nat.zero_lt_succ 1)]
 simp only[Result.andThen]
 rw[Oper.upon_value]
 go_wp2
 rw[run_callFunc_extern Tryz.func215 EG EG EG (e:=Extern.AbiNoEscape.same) EG]
 rw[Lib.run_noEscape]
 simp only[Result.andThen]
 rw[Oper.upon_value]
 go_wp2
 rw[Lib.run_from_unsafe w ⟨b,0,none⟩ Tryz.underlying143 Tryz.underlying211 hj hsh EG]
 simp only[Result.andThen]
 rw[Oper.upon_value]
 go_wp2
 go_end0
 exact⟨rfl,rfl⟩
def Bld(B b:Nat)(l:List UInt8)(w:World):Prop:=Lib.IsBuilder 213 5 B b (Lib.byteCells l) w
theorem B7R(B b:Nat)(bs:List Value)(w:World)(h:Lib.IsBuilder 213 5 B b bs w):
 Calls Tryz.prog 186 #[.pointer (some ⟨b,0,none⟩)] w fun e w'=>e= .returned (.tuple #[])∧Lib.BuilderAt 213 5 B b (.pointer (some ⟨b,0,none⟩)) bs w'∧Below B w w':=by
 rcases h with h|h
 ·refine(A6c b w h.cell0 h.shape h.frozen0).mono ?_
  rintro e w' ⟨rfl,rfl⟩
  exact⟨rfl,h.used _,(AI B w).setCell (p:=⟨b,0,none⟩) h.1 _⟩
 ·refine(A6E b w h.cell0).mono ?_
  rintro e w' ⟨rfl,rfl⟩
  exact⟨rfl,h,AI B _⟩
theorem bldWrite(B b:Nat)(l:List UInt8)(s:ByteArray)(w:World)(h:Bld B b l w)(hlen:l.length+s.size≤140737488355328)(hBw:B≤w.heap.size):
 Calls Tryz.prog 145 #[.pointer (some ⟨b,0,none⟩),.string s] w fun e w'=>(∃v,e= .returned v)∧Bld B b (l++L s) w'∧Below B w w':=by
 obtain⟨i0,hi,hz0,hz1,hz2⟩:=info_parts B3A
 have hbl:(Lib.byteCells l).length=l.length:=by simp[Lib.byteCells]
 go_enter Tryz.func145,Tryz.ntmps145
 go_wp2_with fail
 refine(B7R B b (Lib.byteCells l) w h).mono ?_
 rintro e w1 ⟨rfl,h1,hb1⟩
 obtain⟨hB,v,hbk,hown,hne⟩:=h1
 have c0:w1.cell? ⟨b,0,none⟩=some (.pointer (some ⟨b,0,none⟩)):=by rw[CF hbk];rfl
 have c1:w1.cell? ⟨b,1,none⟩=some v:=by rw[CF hbk];rfl
 go_wp2_with (at_builtin;refine Lib.wpList_append_own_string _ rfl _ _ 119 9 rfl B 5 i0 Tryz.underlying119 Tryz.underlying9 hi hz0 hz1 hz2 _ _ _ rfl hown s rfl ?c3 ?c4 ?c5 ?_)
 case c3=>unfold maxLen;omega
 case c4=>omega
 case c5=>have:=hb1.size;omega
 intro v' w2 hown' hgrow _
 have hlt:b<w1.heap.size:=(Ay.1 hbk).1
 have hb2:w2.heap[b]? =some (.cells #[.pointer (some ⟨b,0,none⟩),v] 213 (0,0)):=by
  rw[hgrow.block b hlt (fun e=>hne e.symm)]
  exact hbk
 have d0:w2.cell? ⟨b,0,none⟩=some (.pointer (some ⟨b,0,none⟩)):=by rw[CF hb2];rfl
 have d1:w2.cell? ⟨b,1,none⟩=some v:=by rw[CF hb2];rfl
 have f1:w2.frozen? ⟨b,1,none⟩=false:=Lib.frozen_of_heap hb2 1
 obtain⟨ao,n',cap,rfl⟩:∃ao n' cap,v'= .slice ao n' cap:=by
  exact C2b
 go_wp2
 go_ret2
 refine⟨⟨_,rfl⟩,.inr ?_, ?_⟩
 ·exact C1j
 ·exact C1T
theorem B5P(B b:Nat)(l:List UInt8)(w:World)(h:Bld B b l w)(hBw:B≤w.heap.size):
 Calls Tryz.prog 146 #[.pointer (some ⟨b,0,none⟩)] w fun e w'=>e= .returned (.string (S l))∧Below B w w':=
 Tryz.Builder_String_any B b l w h hBw
theorem B5Q(B b:Nat)(bs:List Value)(w:World)(h:Lib.IsBuilder 213 5 B b bs w):
 Calls Tryz.prog 186 #[.pointer (some ⟨b,0,none⟩)] w fun e w'=>e= .returned (.tuple #[])∧Lib.BuilderAt 213 5 B b (.pointer (some ⟨b,0,none⟩)) bs w'∧Below B w w'∧∀k,k≠b→w'.heap[k]? =w.heap[k]? :=by
 rcases h with h|h
 ·refine(A6c b w h.cell0 h.shape h.frozen0).mono ?_
  rintro e w' ⟨rfl,rfl⟩
  exact⟨rfl,h.used _,(AI B w).setCell (p:=⟨b,0,none⟩) h.1 _,fun k hk=>Bp _ _ _ _ hk⟩
 ·refine(A6E b w h.cell0).mono ?_
  rintro e w' ⟨rfl,rfl⟩
  exact⟨rfl,h,AI B _,fun _ _=>rfl⟩
theorem B5R(B b:Nat)(l:List UInt8)(s:ByteArray)(w:World)(h:Bld B b l w)(hlen:l.length+s.size≤140737488355328)(hBw:B≤w.heap.size):
 Calls Tryz.prog 145 #[.pointer (some ⟨b,0,none⟩),.string s] w fun e w'=>(∃v,e= .returned v)∧Bld B b (l++L s) w'∧Below B w w'∧
  ∀g cs T r,g≠b→T≠5→w.heap[g]? =some (.cells cs T r)→w'.heap[g]? =some (.cells cs T r):=by
 obtain⟨i0,hi,hz0,hz1,hz2⟩:=info_parts B3A
 have hbl:(Lib.byteCells l).length=l.length:=by simp[Lib.byteCells]
 go_enter Tryz.func145,Tryz.ntmps145
 go_wp2_with fail
 refine(B5Q B b (Lib.byteCells l) w h).mono ?_
 rintro e w1 ⟨rfl,h1,hb1,hk1⟩
 have HK1:=AA hk1
 clear hk1
 obtain⟨hB,v,hbk,hown,hne⟩:=h1
 have c0:w1.cell? ⟨b,0,none⟩=some (.pointer (some ⟨b,0,none⟩)):=by rw[CF hbk];rfl
 have c1:w1.cell? ⟨b,1,none⟩=some v:=by rw[CF hbk];rfl
 go_wp2_with (at_builtin;refine Lib.wpList_append_own_string _ rfl _ _ 119 9 rfl B 5 i0 Tryz.underlying119 Tryz.underlying9 hi hz0 hz1 hz2 _ _ _ rfl hown s rfl ?c3 ?c4 ?c5 ?_)
 case c3=>unfold maxLen;omega
 case c4=>omega
 case c5=>have:=hb1.size;omega
 intro v' w2 hown' hgrow _
 have hlt:b<w1.heap.size:=(Ay.1 hbk).1
 have hb2:w2.heap[b]? =some (.cells #[.pointer (some ⟨b,0,none⟩),v] 213 (0,0)):=by
  rw[hgrow.block b hlt (fun e=>hne e.symm)]
  exact hbk
 have d0:w2.cell? ⟨b,0,none⟩=some (.pointer (some ⟨b,0,none⟩)):=by rw[CF hb2];rfl
 have d1:w2.cell? ⟨b,1,none⟩=some v:=by rw[CF hb2];rfl
 have f1:w2.frozen? ⟨b,1,none⟩=false:=Lib.frozen_of_heap hb2 1
 obtain⟨ao,n',cap,rfl⟩:∃ao n' cap,v'= .slice ao n' cap:=by
  exact C2b
 have HG:Hid (∀g cs T r,g≠b→T≠5→w.heap[g]? =some (.cells cs T r)→w2.heap[g]? =some (.cells cs T r)):=fun g cs T r hg hT hh=>by
  have h1:w1.heap[g]? =some (.cells cs T r):=(HK1.out g hg).trans hh
  have h2:g<w1.heap.size:=(Ay.1 h1).1
  rw[hgrow.block g h2 (fun e=>Lib.ownBlock_ne hown h1 hT e.symm)]
  exact h1
 go_wp2
 go_ret2
 refine⟨⟨_,rfl⟩,.inr ?_, ?_,fun g cs T r hg hT hh=> ?_⟩
 ·exact C1j
 ·exact C1T
 ·rw[Bp _ _ _ _ hg]
  exact HG.out g cs T r hg hT hh
theorem A7R{B b:Nat}{p:Value}{bs:List Value}{w w':World}(h:Lib.BuilderAt 213 5 B b p bs w)(hb:Below w.heap.size w w'):Lib.BuilderAt 213 5 B b p bs w':=by
 have hlt:=h.lt
 obtain⟨hB,v,hbk,hown,hne⟩:=h
 exact⟨hB,v,(hb.block b hlt).trans hbk,A1l hown hb,hne⟩
theorem Bld.below{B b:Nat}{l:List UInt8}{w w':World}(h:Bld B b l w)(hb:Below w.heap.size w w'):Bld B b l w':=by
 rcases h with h|h
 ·exact .inl (A7R h hb)
 ·exact .inr (A7R h hb)
theorem Bld.lt{B b:Nat}{l:List UInt8}{w:World}(h:Bld B b l w):b<w.heap.size:=by
 rcases h with h|h
 ·exact h.lt
 ·exact h.lt
theorem B7S(w:World)(o:Obj):(w.alloc o).heap[w.heap.size]? =some o:=by
 show(w.heap.push o)[w.heap.size]? =some o
 simp
theorem fl_len{Ps:List ByteArray}(h:∀p∈Ps,p.size≤40)(j:Nat):((Ps.take j).flatMap L).length≤40*j:=by
 induction Ps generalizing j with
 |nil=>simp
 |cons p Ps ih=>
  cases j with
  |zero=>simp
  |succ j=>
   rw[CM,BI,AJ,A0e]
   have:=ih (fun q hq=>h q (By _ hq)) j
   have:=h p Bu
   omega
theorem B8N{Ps:List ByteArray}{j:Nat}(h:j<Ps.length):(Ps.take (j+1)).flatMap L=(Ps.take j).flatMap L++L (Ps.getD j ⟨#[]⟩):=by
 rw[Cf,AL h,CX,AK,AL h];simp
theorem B8O{x:Ed}(h:A0A x=0):(wrE x).length≤120:=by
 obtain⟨h0,h1,h2,h3,h4⟩:=A4B h
 have z0:=Lib.itoa_length_le x.at_ EE EE
 have z1:=Lib.itoa_length_le x.del EE EE
 have z2:=Lib.itoa_length_le (x.ins.length:Int) EE EE
 unfold wrE
 simp only[AJ,AM,BK]
 omega
theorem A7B{l:List Ed}(h:∀x∈l,A0A x=0):(wrL l).length≤120*l.length:=by
 induction l with
 |nil=>simp[wrL]
 |cons x l ih=>
  have h1:=B8O (h x Bu)
  have h2:=ih (fun y hy=>h y (By _ hy))
  unfold wrL at*
  rw[BI,AJ,AM]
  omega
theorem B8P{w:World}{g:Nat}{Ps:List ByteArray}(h:w.heap[g]? =some (.cells (Ps.map Value.string).toArray 9 (0,0))){j:Nat}(hj:j<Ps.length):w.cell? ⟨g,j,none⟩=some (.string (Ps.getD j ⟨#[]⟩)):=by
 rw[CF h,AT,BT,AL hj,AK,AL hj];rfl
theorem B8Q{Ps:List ByteArray}(h:∀p∈Ps,p.size≤40)(j:Nat):(Ps.getD j ⟨#[]⟩).size≤40:=by
 rw[AK]
 cases hj:Ps[j]? with
 |none=>exact AS _
 |some p=>exact h p (Bx hj)
theorem A7S(l:List Ed)(A:Option Addr)(m c B:Nat)(w:World)(hr:Rd w B 3 A m (A0f l))(hB:B≤w.heap.size)(hm:m≤9223372036854775807)(ht:TabI w)(hz:A1d l=0):
 Calls Tryz.prog 130 #[.slice A m c] w fun e w'=>e= .returned (.string (S (wrL l)))∧Below w.heap.size w w':=by
 have hlen:=Rd.rec_len A2v EE hr
 have HR:=AA hr;clear hr
 have HL:=AA hlen;clear hlen
 have hall:=(A1c.1 hz).2
 have hm20:m≤20:=by have:=(A1c.1 hz).1;have:=HL.out;omega
 have HALL:Hid (∀k (h:k<l.length),A0A l[k]=0):=fun k h=>hall _ (Ac h)
 have HWL:Hid (∀k,k≤m→(wrL (l.take k)).length≤2400):=fun k hk=>by
  have:=A7B (l:=l.take k) (fun x hx=>hall x (CI hx))
  rw[AV] at this
  omega
 clear hall hz
 go_enter Tryz.func130,Tryz.ntmps130
 have hb0:Below w.heap.size w (w.alloc (.cells #[.pointer none,.slice none 0 0] 213)):=(AI _ _).alloc (AD _) _
 have hbld:Bld w.heap.size w.heap.size [] (w.alloc (.cells #[.pointer none,.slice none 0 0] 213)):=Lib.fresh_isBuilder _ _ w
 go_wp2_with fail
 go_loopw [10] (fun iv wr=>∃k:Nat,k≤m∧iv= .int .i64 (k:Int)∧Bld w.heap.size w.heap.size (wrL (l.take k)) wr∧Below w.heap.size w wr) (fun iv _=>m-(intOf iv).toNat)
 case atStart=>exact⟨0,AS _,rfl,hbld,hb0⟩
 case round=>
  clear hbld hb0
  obtain⟨k,hk,rfl,hbd,hb⟩:=hrel
  have hbs:=hb.size
  by_cases hlt:k<m
  ·have g1:decide ((k:Int)<(m:Int))=true:=AG EE
   have g1':decide (k<m)=true:=AG hlt
   obtain⟨ad,hl,rfl,hab,c0,c1,c2⟩:=(HR.out.below (hb.mono hB)).at_ed hlt
   obtain⟨hx0,hx1,hx2,hx3,hx4⟩:=A4B (HALL.out k hl)
   have HSN:=AA (B1C hl)
   have hwl:=HWL.out k hk
   have hzz:(S l[k].ins).size=l[k].ins.length:=A0b _
   have HZ:=AA hzz;clear hzz
   generalize l[k]=x at*
   obtain⟨xa,xd,xi⟩:=x
   simp only at c0 c1 c2 HZ hx0 hx1 hx2 hx3 hx4
   have HI0:=AA (fun W (hW:Below w.heap.size w W)=>A1Z xa EE EE ht hW)
   have HI1:=AA (fun W (hW:Below w.heap.size w W)=>A1Z xd EE EE ht hW)
   have HI2:=AA (fun W (hW:Below w.heap.size w W)=>A1Z ((S xi).size:Int) (by rw[HZ.out];omega) (by rw[HZ.out];omega) ht hW)
   obtain⟨Ps,hPs⟩:∃Ps:List ByteArray,Ps=[S (Lib.itoa xa),⟨#[32]⟩,S (Lib.itoa xd),⟨#[32]⟩,S (Lib.itoa ((S xi).size:Int)),⟨#[58]⟩,S xi,⟨#[59]⟩]:=⟨_,rfl⟩
   have z0:(S (Lib.itoa xa)).size≤21:=by rw[A0b];exact Lib.itoa_length_le _ EE EE
   have z1:(S (Lib.itoa xd)).size≤21:=by rw[A0b];exact Lib.itoa_length_le _ EE EE
   have z2:(S (Lib.itoa ((S xi).size:Int))).size≤21:=by rw[A0b];exact Lib.itoa_length_le _ (by rw[HZ.out];omega) (by rw[HZ.out];omega)
   have z3:(S xi).size≤40:=by rw[HZ.out];omega
   have HP8:Hid (Ps.length=8):=by unfold Hid;rw[hPs];rfl
   have HPF:Hid (wrL (l.take k)++Ps.flatMap L=wrL (l.take (k+1))):=by
    unfold Hid
    rw[HSN.out,hPs]
    simp only[BI,List.flatMap_nil,L_S]
    unfold wrE
    rw[HZ.out]
    simp only[Aq]
    rfl
   have HPS:Hid (∀p∈Ps,p.size≤40):=by
    intro p hp
    rw[hPs] at hp
    simp only[Br,Dl,or_false] at hp
    rcases hp with rfl|rfl|rfl|rfl|rfl|rfl|rfl|rfl
    ·omega
    ·decide
    ·omega
    ·decide
    ·omega
    ·decide
    ·omega
    ·decide
   have HPA:Hid ((Ps.map Value.string).toArray= #[.string (S (Lib.itoa xa)),.string ⟨#[32]⟩,.string (S (Lib.itoa xd)),.string ⟨#[32]⟩,.string (S (Lib.itoa ((S xi).size:Int))),.string ⟨#[58]⟩,.string (S xi),.string ⟨#[59]⟩]):=by
    unfold Hid;rw[hPs];rfl
   clear hPs HSN HZ hx0 hx1 hx2 hx3 hx4 z0 z1 z2
   generalize S (Lib.itoa ((S xi).size:Int))=Y2 at*
   generalize S (Lib.itoa xa)=Y0 at*
   generalize S (Lib.itoa xd)=Y1 at*
   generalize S xi=X at*
   generalize wrL (l.take k)=acc at*
   go_wp2_with fail
   have hbA:Below wr.heap.size wr (wr.alloc (.cells #[.int .i64 xa,.int .i64 xd,.string X] 95)):=(AI _ _).alloc (AD _) _
   have c0':(wr.alloc (.cells #[.int .i64 xa,.int .i64 xd,.string X] 95)).cell? ⟨wr.heap.size,0,none⟩=some (.int .i64 xa):=by simp
   have c1':(wr.alloc (.cells #[.int .i64 xa,.int .i64 xd,.string X] 95)).cell? ⟨wr.heap.size,1,none⟩=some (.int .i64 xd):=by simp
   have c3':(wr.alloc (.cells #[.int .i64 xa,.int .i64 xd,.string X] 95)).cell? ⟨wr.heap.size,2,none⟩=some (.string X):=by simp
   have hgl:wr.heap.size<(wr.alloc (.cells #[.int .i64 xa,.int .i64 xd,.string X] 95)).heap.size:=by simp
   have hbd2:=hbd.below hbA
   have hB12:=A0h hb hbA
   generalize(wr.alloc (.cells #[.int .i64 xa,.int .i64 xd,.string X] 95))=wa at*
   clear c0 c1 c2 hbd hbA
   generalize wr.heap.size=gb at*
   obtain⟨F1,HF1,hcell10,hcell11,hcell12⟩:=cells3 ⟨gb,0,none⟩ (.int .i64 xa) ⟨gb,1,none⟩ (.int .i64 xd) ⟨gb,2,none⟩ (.string X)
   refine EB [(0,true),(1,true),(3,true),(4,true),(6,true),(7,true),(8,true),(10,true),(11,true),(14,true),(2,false),(5,false),(9,false),(12,false),(13,true)] HF1 ?_
   intro hne1
   simp only[A0i,AT,AP,AR]
   repeat(first|((first|refine Dt ?_|refine Du ?_);intro K hK;go_big_quiet_op;go_big_quiet_on)|((first|refine Dv ?_|refine Dw ?_);simp only[Act.put,AB,AE,AF]))
   refine A0a ?_
   go_wp2_with fail
   refine(HI0.out _ (by first|exact hB12.drew|exact hB12)).mono ?_
   rintro e w2 ⟨rfl,hb2⟩
   have hB2:=A0h (by first|exact hB12.drew|exact hB12) hb2
   have hbd3:=(hbd2.below (by first|exact(AI _ _).drew|exact AI _ _)).below hb2
   have d0:w2.cell? ⟨gb,0,none⟩=some (.int .i64 xa):=((A2Q hb2).1 gb 0 hgl).trans c0'
   have d1:w2.cell? ⟨gb,1,none⟩=some (.int .i64 xd):=((A2Q hb2).1 gb 1 hgl).trans c1'
   have d2:w2.cell? ⟨gb,2,none⟩=some (.string X):=((A2Q hb2).1 gb 2 hgl).trans c3'
   have hg2:gb<w2.heap.size:=AO hgl hb2.size
   go_wp2_with fail
   refine ED HF1 ?_
   repeat(first|((first|refine Dt ?_|refine Du ?_);intro K hK;go_big_quiet_op;go_big_quiet_on)|((first|refine Dv ?_|refine Dw ?_);simp only[Act.put,AB,AE,AF]))
   refine A0a ?_
   go_wp2_with fail
   refine(HI1.out _ hB2).mono ?_
   rintro e w3 ⟨rfl,hb3⟩
   have hB3:=A0h hB2 hb3
   have hbd4:=hbd3.below hb3
   have e0:w3.cell? ⟨gb,0,none⟩=some (.int .i64 xa):=((A2Q hb3).1 gb 0 hg2).trans d0
   have e1:w3.cell? ⟨gb,1,none⟩=some (.int .i64 xd):=((A2Q hb3).1 gb 1 hg2).trans d1
   have e2:w3.cell? ⟨gb,2,none⟩=some (.string X):=((A2Q hb3).1 gb 2 hg2).trans d2
   have hg3:gb<w3.heap.size:=AO hg2 hb3.size
   go_wp2_with fail
   refine ED HF1 ?_
   repeat(first|((first|refine Dt ?_|refine Du ?_);intro K hK;go_big_quiet_op;go_big_quiet_on)|((first|refine Dv ?_|refine Dw ?_);simp only[Act.put,AB,AE,AF]))
   refine A0a ?_
   go_wp2_with fail
   refine(HI2.out _ hB3).mono ?_
   rintro e w4 ⟨rfl,hb4⟩
   have hB4:=A0h hB3 hb4
   have hbd5:=hbd4.below hb4
   have k0:w4.cell? ⟨gb,0,none⟩=some (.int .i64 xa):=((A2Q hb4).1 gb 0 hg3).trans e0
   have k1:w4.cell? ⟨gb,1,none⟩=some (.int .i64 xd):=((A2Q hb4).1 gb 1 hg3).trans e1
   have k2:w4.cell? ⟨gb,2,none⟩=some (.string X):=((A2Q hb4).1 gb 2 hg3).trans e2
   have hg4:gb<w4.heap.size:=AO hg3 hb4.size
   go_wp2_with fail
   refine ED HF1 ?_
   repeat(first|((first|refine Dt ?_|refine Du ?_);intro K hK;go_big_quiet_op;go_big_quiet_on)|((first|refine Dv ?_|refine Dw ?_);simp only[Act.put,AB,AE,AF]))
   clear d0 d1 d2 e0 e1 e2 c0' c1' c3' hbd2 hbd3 hbd4 hb2 hb3 hb4 hB2 hB3 hB12
   have hb5:Below w4.heap.size w4 (w4.alloc (.cells #[.string Y0,.string ⟨#[32]⟩,.string Y1,.string ⟨#[32]⟩,.string Y2,.string ⟨#[58]⟩,.string X,.string ⟨#[59]⟩] 9)):=(AI _ _).alloc (AD _) _
   have f0:(w4.alloc (.cells #[.string Y0,.string ⟨#[32]⟩,.string Y1,.string ⟨#[32]⟩,.string Y2,.string ⟨#[58]⟩,.string X,.string ⟨#[59]⟩] 9)).cell? ⟨gb,0,none⟩=some (.int .i64 xa):=((A2Q hb5).1 gb 0 hg4).trans k0
   have f1:(w4.alloc (.cells #[.string Y0,.string ⟨#[32]⟩,.string Y1,.string ⟨#[32]⟩,.string Y2,.string ⟨#[58]⟩,.string X,.string ⟨#[59]⟩] 9)).cell? ⟨gb,1,none⟩=some (.int .i64 xd):=((A2Q hb5).1 gb 1 hg4).trans k1
   have f2:(w4.alloc (.cells #[.string Y0,.string ⟨#[32]⟩,.string Y1,.string ⟨#[32]⟩,.string Y2,.string ⟨#[58]⟩,.string X,.string ⟨#[59]⟩] 9)).cell? ⟨gb,2,none⟩=some (.string X):=((A2Q hb5).1 gb 2 hg4).trans k2
   have hn5:=B7S w4 (.cells #[.string Y0,.string ⟨#[32]⟩,.string Y1,.string ⟨#[32]⟩,.string Y2,.string ⟨#[58]⟩,.string X,.string ⟨#[59]⟩] 9)
   have hbd6:=hbd5.below hb5
   have hB5:=A0h hB4 hb5
   refine A0a ?_
   go_wp2_with fail
   refine ED HF1 ?_
   repeat(first|((first|refine Dt ?_|refine Du ?_);intro K hK;go_big_quiet_op;go_big_quiet_on)|((first|refine Dv ?_|refine Dw ?_);simp only[Act.put,AB,AE,AF]))
   have hgs:w.heap.size<w4.heap.size:=hbd5.lt
   clear HI0 HI1 HI2 f0 f1 f2 k0 k1 k2 hbd5 hB4 hg4 hg3 hg2 hgl hb5
   generalize(w4.alloc (.cells #[.string Y0,.string ⟨#[32]⟩,.string Y1,.string ⟨#[32]⟩,.string Y2,.string ⟨#[58]⟩,.string X,.string ⟨#[59]⟩] 9))=w5 at*
   generalize w4.heap.size=gs at*
   rw[←HPA.out] at hn5
   clear HPA
   refine A0g ?_
   go_wp2_with fail
   go_loopw [28] (fun jv w6=>∃j:Nat,j≤8∧jv= .int .i64 (j:Int)∧Bld w.heap.size w.heap.size (acc++(Ps.take j).flatMap L) w6∧Below w.heap.size w w6∧w6.heap[gs]? =some (.cells (Ps.map Value.string).toArray 9 (0,0))) (fun jv _=>8-(intOf jv).toNat)
   case atStart=>exact⟨0,AS _,rfl,by simpa using hbd6,hB5,hn5⟩
   case round=>
    clear hbd6 hB5 hn5
    obtain⟨j,hj,rfl,hbd,hb6,hh6⟩:=hrel
    have hbs6:=hb6.size
    by_cases hj8:j<8
    ·have g1:decide ((j:Int)<8)=true:=AG EE
     have g1':decide (j<8)=true:=AG hj8
     have cj:=B8P hh6 (j:=j) (by rw[HP8.out];exact hj8)
     have hzj:=B8Q HPS.out j
     have hfl:=fl_len HPS.out j
     have HSJ:=AA (B8N (Ps:=Ps) (j:=j) (by rw[HP8.out];exact hj8))
     generalize Ps.getD j ⟨#[]⟩=Z at*
     have HW:=AA (B5R w.heap.size w.heap.size (acc++(Ps.take j).flatMap L) Z _ hbd (by rw[AJ];omega) hb6.size)
     rw[AN,←HSJ.out] at HW
     have HH6:=AA hh6
     clear hbd hh6 hfl hwl
     go_wp2_with fail
     refine HW.out.mono ?_
     rintro e w7 ⟨⟨v,rfl⟩,hbd7,hb7,hk7⟩
     have hh7:=hk7 gs _ _ _ EE EF HH6.out
     clear hk7
     go_wp2_with fail
     go_roundw
     case rel=>exact⟨j+1,by omega,by go_num,hbd7,hb6.trans hb7,hh7⟩
     case measure=>simp[intOf];omega
    ·obtain rfl:j=8:=EE
     have g1:decide ((8:Int)<8)=false:=by decide
     rw[AX (by rw[HP8.out];exact AD _),HPF.out] at hbd
     clear hh6
     go_wp2_with fail
     go_roundw
     case rel=>exact⟨k+1,by omega,by go_num,hbd,hb6⟩
     case measure=>simp[intOf];omega
  ·obtain rfl:k=m:=EE
   have g1:decide ((k:Int)<(k:Int))=false:=AC EE
   have g1':decide (k<k)=false:=AC hlt
   rw[AX (by rw[HL.out];exact AD _)] at hbd
   have HS:=AA (B5P w.heap.size w.heap.size _ wr hbd hb.size)
   clear hbd
   go_wp2_with fail
   refine HS.out.mono ?_
   rintro e w3 ⟨rfl,hb3⟩
   go_wp2_with fail
   go_ret
   exact⟨rfl,hb.trans hb3⟩
end Go.Proofs.YtplgghjdidmcfaaGreatDoor
namespace Go.Proofs.YtplgghjdidmcfaaGreatDoor
open Go.RowKit
theorem A3A(d rec:ByteArray)(sf:Nat)(w:World)(hd:d.size≤4000):
 Calls Tryz.prog 63 #[.agg #[.string d,.int .i64 (sf:Int)],.string rec] w fun e w'=>e= .returned (.tuple #[.agg #[.string (appD d rec),.int .i64 (sf:Int)],.int .i64 (A0t d rec)])∧Below w.heap.size w w':=by
 by_cases hr:1100<rec.size
 ·have HE:Hid (A0t d rec=2):=by unfold Hid A0t;rw[if_pos hr]
  exact C1p
 ·have hz:(S (A0T (L rec))).size=rec.size+6:=by rw[A0b,A2m,A0e]
  have HZ:=AA hz
  have hz1:(S (A0T (L rec))).size≤1106:=EE
  have HE:Hid (A0t d rec=if 4000<d.size+(rec.size+6) then 11 else 0):=by unfold Hid A0t;rw[if_neg hr]
  clear hz
  by_cases hf:4000<d.size+(rec.size+6)
  ·rw[Hid,if_pos hf] at HE
   have HE:=AA HE
   exact C1p
  ·rw[Hid,if_neg hf] at HE
   have HE:=AA HE
   have HD:Hid (appD d rec=d++S (A0T (L rec))):=by unfold Hid appD;rw[HE.out,if_pos rfl]
   go_enter Tryz.func63,Tryz.ntmps63
   go_wp2_with fail
   go_region_with ((go_at_call 128;refine(A5n rec EE _).mono ?_;rintro e w1 ⟨rfl,hb1⟩;obtain⟨hc,hf⟩:=A2Q hb1;have c0:w1.cell? ⟨w.heap.size,0,none⟩=some (.string d):=(by rw[hc _ _ (by simp;try omega)];simp);have f0:w1.frozen? ⟨w.heap.size,0,none⟩=false:=(by rw[hf _ _ (by simp;try omega)];simp);have c1:w1.cell? ⟨w.heap.size,1,none⟩=some (.int .i64 (sf:Int)):=(by rw[hc _ _ (by simp;try omega)];simp);have e0:w1.cell? ⟨w.heap.size+1,0,none⟩=some (.string ⟨#[]⟩):=(by rw[hc _ _ (by simp;try omega)];simp);have e1:w1.cell? ⟨w.heap.size+1,1,none⟩=some (.int .i64 0):=(by rw[hc _ _ (by simp;try omega)];simp);have k0:w1.frozen? ⟨w.heap.size+1,0,none⟩=false:=(by rw[hf _ _ (by simp;try omega)];simp);have k1:w1.frozen? ⟨w.heap.size+1,1,none⟩=false:=(by rw[hf _ _ (by simp;try omega)];simp);have hbA:Below w.heap.size w w1:=A0h Ds hb1;have hs1:=hbA.size;clear hc hf hb1))
   all_goals go_wp2_with fail
   all_goals(apply bodyPost_ret;(simp[results,Tryz.results63,go_sem,e0,e1];rfl);rfl)
   all_goals exact⟨by rw[HE.out,HD.out],Ds⟩
theorem B0J(d:ByteArray)(sf:Nat)(keep:Int)(w:World)(hd:d.size≤4000)(hs:sf≤d.size):
 Calls Tryz.prog 132 #[.agg #[.string d,.int .i64 (sf:Int)],.int .i64 keep] w fun e w'=>e= .returned (.tuple #[.agg #[.string (craD d sf keep),.int .i64 (craF d sf keep:Nat)],.int .i64 (A0D d sf keep)])∧Below w.heap.size w w':=by
 by_cases hk0:keep<0∨(d.size:Int)-(sf:Int)<keep
 ·have HE:Hid (A0D d sf keep=1):=by unfold Hid A0D;rw[if_pos hk0]
  have HD:Hid (craD d sf keep=d∧craF d sf keep=sf):=by unfold Hid craD craF;rw[HE.out,if_neg EF,if_neg EF];exact⟨rfl,rfl⟩
  have HK:=AA hk0;clear hk0
  go_enter Tryz.func132,Tryz.ntmps132
  go_wp2_with fail
  all_goals first
   |(
    (apply bodyPost_ret;(simp[results,Tryz.results132,go_sem];rfl);rfl)
    exact⟨by rw[HE.out,HD.out.1,HD.out.2],Ds⟩)
   |(exfalso;have:=HK.out;omega)
 have hk1:0≤keep:=EE
 have hk2:keep≤(d.size:Int)-(sf:Int):=EE
 have HE:Hid (A0D d sf keep=0):=by unfold Hid A0D;rw[if_neg EE]
 have HD:Hid (craD d sf keep=(craS d sf keep).extract 0 (craN d sf keep)∧craF d sf keep=craN d sf keep):=by unfold Hid craD craF;rw[HE.out,if_pos rfl,if_pos rfl];exact⟨rfl,rfl⟩
 obtain⟨k,rfl⟩:=BV hk1
 have HS:Hid (craS d sf (k:Int)=d.extract 0 (sf+k)):=rfl
 have hsz:(d.extract 0 (sf+k)).size≤4000:=by rw[Ak];omega
 clear hk0
 go_enter Tryz.func132,Tryz.ntmps132
 go_wp2_with fail
 refine(A7M _ (d.extract 0 (sf+k)) EE (AD _) _).mono ?_
 rintro e w1 ⟨v1,rfl,hown1,hb1⟩
 obtain⟨hc,hf⟩:=A2Q hb1
 have hz:=hb1.size
 simp only[Ar] at hc hf hz
 have hbA:Below w.heap.size w w1:=A0h Ds hb1
 have hs1:=hbA.size
 have e0:w1.cell? ⟨w.heap.size+1,0,none⟩=some (.string ⟨#[]⟩):=by rw[hc _ _ EE];simp
 have e1:w1.cell? ⟨w.heap.size+1,1,none⟩=some (.int .i64 0):=by rw[hc _ _ EE];simp
 have hle:=A6p (L (d.extract 0 (sf+k)))
 rw[A0e] at hle
 have HN:Hid (craN d sf (k:Int)=(A0P (L (d.extract 0 (sf+k)))).2):=rfl
 clear hown1
 generalize(A0P (L (d.extract 0 (sf+k)))).2=n at*
 generalize d.extract 0 (sf+k)=ds at*
 go_wp2_with fail
 (apply bodyPost_ret;(simp[results,Tryz.results132,go_sem,e0,e1];rfl);rfl)
 exact⟨by rw[HE.out,HD.out.1,HD.out.2,HS.out,HN.out],Ds⟩
end Go.Proofs.YtplgghjdidmcfaaGreatDoor
