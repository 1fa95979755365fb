/- Written anew, smaller, by a program of our own out of our texts. No condition of our own. -/
import Derived.Test.YtplgghjdidmcfaaGreatDoorQ12
import Derived.Test.YtplgghjdidmcfaaGreatDoorQ08
import Derived.Test.YtplgghjdidmcfaaGreatDoorQ11
import Derived.Test.YtplgghjdidmcfaaGreatDoorQ09
set_option maxRecDepth 100000
set_option maxHeartbeats 16000000
set_option linter.all false
namespace Go.Proofs.YtplgghjdidmcfaaGreatDoor
open Go.RowKit
theorem C1H{P:Prop}(h:P:=by
 clear c0 c1 f0 f1 hL3 hg3
 obtain⟨c0,c1,f0,f1,hg,hgl⟩:=H3.out.cells
 go_wp2_with fail
 go_ret
 exact⟨rfl,H3.out.told _,B1K hB3 _⟩
 ):P:=h
theorem C2i{P:Prop}(h:P:=by
 go_wp2_with fail
 go_ret2
 exact⟨_,[],false,rfl,HV.out,Ad _ _ _ _,hb10⟩
 ):P:=h
theorem C2k{P:Prop}(h:P:=by
 go_wp2_with fail
 go_ret2
 exact⟨_,[],12,rfl,HV.out,Ad _ _ _ _,hb4⟩
 ):P:=h
theorem A4I(w:World):Calls Tryz.prog 114 #[] w fun e w'=>e= .returned (.pointer (some ⟨w.heap.size,0,none⟩))∧w'=w.alloc (.cells #[.string ⟨#[]⟩,.int .i64 0] 187):=by
 go_enter Tryz.func114,Tryz.ntmps114
 go_wp2_with fail
 go_ret
 exact⟨rfl,rfl⟩
structure LeafAt (w:World) (g gl:Nat) (tx d:ByteArray) (sf:Nat):Prop where
 leaf:Blk w g 127 #[.string tx,.pointer (some ⟨gl,0,none⟩)]
 log:LogAt w gl 187 d sf
 ne:g≠gl
section
variable {w w':World} {g gl:Nat} {tx d:ByteArray} {sf:Nat}
theorem LeafAt.below(h:LeafAt w g gl tx d sf)(k:Below w.heap.size w w'):LeafAt w' g gl tx d sf:=⟨h.leaf.below' k,h.log.below' k,h.ne⟩
theorem LeafAt.cells(h:LeafAt w g gl tx d sf):w.cell? ⟨g,0,none⟩=some (.string tx)∧w.cell? ⟨g,1,none⟩=some (.pointer (some ⟨gl,0,none⟩))∧w.frozen? ⟨g,0,none⟩=false∧w.frozen? ⟨g,1,none⟩=false∧g<w.heap.size∧gl<w.heap.size:=
 ⟨h.leaf.cell 0,h.leaf.cell 1,h.leaf.frozen 0,h.leaf.frozen 1,h.leaf.lt,Blk.lt h.log⟩
theorem LeafAt.logged{d':ByteArray}{sf':Nat}(h:LeafAt w g gl tx d sf)(k:LogAt w' gl 187 d' sf')(hg:w.grownBy w' (some gl)):LeafAt w' g gl tx d' sf':=
 ⟨h.leaf.grown hg (fun e=>h.ne (Aw e)),k,h.ne⟩
theorem LeafAt.told(h:LeafAt w g gl tx d sf)(t:ByteArray):LeafAt (w.setCell ⟨g,0,none⟩ (.string t)) g gl t d sf:=
 ⟨h.leaf.set_ 0 _,Blk.far h.log (fun e=>h.ne e.symm) _,h.ne⟩
theorem A3B(h:w.grownBy w' (some gl)):Gbs w w' [g,gl]:=Gbs.of_gb h (by simp)
theorem B1K{w2:World}(h:Gbs w w2 [g,gl])(t:Value):Gbs w (w2.setCell ⟨g,0,none⟩ t) [g,gl]:=h.set_ (.inl EH) 0 t
end
def lfE(tx d:ByteArray)(l:List Ed):Int:=if A0n tx.size l=0 then A0t d (recE (S (wrL l))) else A0n tx.size l
def lfT(tx d:ByteArray)(l:List Ed):ByteArray:=if lfE tx d l=0 then S (A0C (L tx) l) else tx
def lfD(tx d:ByteArray)(l:List Ed):ByteArray:=if lfE tx d l=0 then appD d (recE (S (wrL l))) else d
theorem LfOk.edit'{tx d:ByteArray}{sf:Nat}(h:LfOk tx d sf)(l:List Ed):LfOk (lfT tx d l) (lfD tx d l) sf:=by
 unfold lfT lfD
 by_cases hz:lfE tx d l=0
 ·rw[if_pos hz,if_pos hz]
  unfold lfE at hz
  split at hz
  ·rename_i he;exact h.edit he hz
  ·rename_i he;exact absurd hz he
 ·rw[if_neg hz,if_neg hz];exact h
def lsE(d t:ByteArray):Int:=if 200<t.size then 2 else A0t d (recB t)
def lsT(tx d t:ByteArray):ByteArray:=if lsE d t=0 then t else tx
def lsD(d t:ByteArray):ByteArray:=if lsE d t=0 then appD d (recB t) else d
theorem LfOk.set'{tx d:ByteArray}{sf:Nat}(h:LfOk tx d sf)(t:ByteArray):LfOk (lsT tx d t) (lsD d t) sf:=by
 unfold lsT lsD
 by_cases hz:lsE d t=0
 ·rw[if_pos hz,if_pos hz]
  unfold lsE at hz
  split at hz
  ·cases hz
  ·exact h.set EE hz
 ·rw[if_neg hz,if_neg hz];exact h
theorem A6u{d rec:ByteArray}(h:A0t d rec≠0):appD d rec=d:=by unfold appD;rw[if_neg h]
theorem A0c{w W:World}(ht:TabI w)(hb:Below w.heap.size w W):TabI W:=Go.Joins.tab_stays (g:=Tryz.prog.globalNamed "internal/strconv.uint64pow10" |>.getD 0) EG ht hb (AD _)
theorem B4o(g gl:Nat)(tx d:ByteArray)(sf:Nat)(l:List Ed)(A:Option Addr)(m c B:Nat)(w:World)(h:LeafAt w g gl tx d sf)(hk:LfOk tx d sf)(hr:Rd w B 3 A m (A0f l))(hB:B≤w.heap.size)(hm:m≤9223372036854775807)(ht:TabI w):
 Calls Tryz.prog 53 #[.pointer (some ⟨g,0,none⟩),.slice A m c] w fun e w'=>e= .returned (.int .i64 (lfE tx d l))∧LeafAt w' g gl (lfT tx d l) (lfD tx d l) sf∧Gbs w w' [g,gl]:=by
 have htx:=hk.text
 have hd:=hk.size
 have HAP:=AA (A5T tx l A m c B w hr hB hm EE)
 have HWR:=AA (fun W (hb:Below w.heap.size w W)=>B5F l A m c B W (hr.below (hb.mono hB)) (AQ hB hb.size) hm (A0c ht hb))
 have HH:=AA h
 obtain⟨c0,c1,f0,f1,hg,hgl⟩:=h.cells
 clear h hk hr ht
 by_cases hz:A0n tx.size l=0
 ·have HZ:=AA hz
  have HA:Hid (A5b tx l=S (A0C (L tx) l)):=by unfold Hid A5b;rw[if_pos hz]
  rw[Hid,HA.out,hz] at HAP
  have HAP:=AA HAP
  have hs:=A3n hz
  have hwl:=A7B (A1c.1 hs).2
  have h20:=(A1c.1 hs).1
  rw[Hid,if_pos hs,hs] at HWR
  have HWR:=AA HWR
  have hTs:(S (wrL l)).size≤2400:=by rw[A0b];omega
  have HE:Hid (lfE tx d l=A0t d (recE (S (wrL l)))):=by unfold Hid lfE;rw[if_pos hz]
  have HT:Hid (lfT tx d l=if A0t d (recE (S (wrL l)))=0 then S (A0C (L tx) l) else tx):=by unfold Hid lfT;rw[HE.out]
  have HD:Hid (lfD tx d l=if A0t d (recE (S (wrL l)))=0 then appD d (recE (S (wrL l))) else d):=by unfold Hid lfD;rw[HE.out]
  clear hz hs hwl h20 HA
  generalize S (A0C (L tx) l)=u at*
  generalize S (wrL l)=T at*
  have HL:=AA (fun W (h:LeafAt W g gl tx d sf)=>A2w gl d (recE T) sf W h.log hd)
  by_cases hq:A0t d (recE T)=0
  ·rw[Hid,hq] at HL HE HT HD
   rw[if_pos rfl] at HT HD
   have HL:=AA HL;have HE:=AA HE;have HT:=AA HT;have HD:=AA HD
   clear hq
   rw[HE.out,HT.out,HD.out]
   go_enter Tryz.func53,Tryz.ntmps53
   go_wp2_with fail
   refine HAP.out.mono ?_
   rintro e w1 ⟨rfl,hb1⟩
   have H1:=AA (HH.out.below hb1)
   have hs1:=hb1.size
   obtain⟨c0,c1,f0,f1,hg,hgl⟩:=H1.out.cells
   go_wp2_with fail
   refine(HWR.out _ hb1).mono ?_
   rintro e w2 ⟨rfl,hb2⟩
   have H2:=AA (H1.out.below hb2)
   have hB2:=A0h hb1 hb2
   obtain⟨c0,c1,f0,f1,hg,hgl⟩:=H2.out.cells
   go_wp2_with fail
   refine(HL.out _ H2.out).mono ?_
   rintro e w3 ⟨rfl,hL3,hg3⟩
   have H3:=AA (H2.out.logged hL3 hg3)
   have hB3:Gbs w w3 [g,gl]:=(Gbs.of_below hB2 _).trans (A3B hg3)
   exact C1H
  ·have HDD:=AA (A6u hq)
   rw[Hid,if_neg hq] at HT HD
   rw[Hid,HDD.out] at HL
   have HL:=AA HL;have HT:=AA HT;have HD:=AA HD
   rw[HE.out,HT.out,HD.out]
   have g1:(A0t d (recE T) !=0)=true:=by simpa using hq
   generalize A0t d (recE T)=q at*
   clear hq
   go_enter Tryz.func53,Tryz.ntmps53
   go_wp2_with fail
   refine HAP.out.mono ?_
   rintro e w1 ⟨rfl,hb1⟩
   have H1:=AA (HH.out.below hb1)
   have hs1:=hb1.size
   obtain⟨c0,c1,f0,f1,hg,hgl⟩:=H1.out.cells
   go_wp2_with fail
   refine(HWR.out _ hb1).mono ?_
   rintro e w2 ⟨rfl,hb2⟩
   have H2:=AA (H1.out.below hb2)
   have hB2:=A0h hb1 hb2
   obtain⟨c0,c1,f0,f1,hg,hgl⟩:=H2.out.cells
   go_wp2_with fail
   refine(HL.out _ H2.out).mono ?_
   rintro e w3 ⟨rfl,hL3,hg3⟩
   have H3:=AA (H2.out.logged hL3 hg3)
   have hB3:Gbs w w3 [g,gl]:=(Gbs.of_below hB2 _).trans (A3B hg3)
   clear c0 c1 f0 f1 hL3 hg3
   go_wp2_with fail
   go_ret
   exact⟨rfl,H3.out,hB3⟩
 ·have HE:Hid (lfE tx d l=A0n tx.size l):=by unfold Hid lfE;rw[if_neg hz]
  have HT:Hid (lfT tx d l=tx):=by unfold Hid lfT;rw[HE.out,if_neg hz]
  have HD:Hid (lfD tx d l=d):=by unfold Hid lfD;rw[HE.out,if_neg hz]
  rw[HE.out,HT.out,HD.out]
  have g1:(A0n tx.size l !=0)=true:=by simpa using hz
  generalize A0n tx.size l=q at*
  clear hz
  go_enter Tryz.func53,Tryz.ntmps53
  go_wp2_with fail
  refine HAP.out.mono ?_
  rintro e w1 ⟨rfl,hb1⟩
  have H1:=AA (HH.out.below hb1)
  go_wp2_with fail
  go_ret
  exact⟨rfl,H1.out,Gbs.of_below hb1 _⟩
theorem B0g(g gl:Nat)(tx d t:ByteArray)(sf:Nat)(w:World)(h:LeafAt w g gl tx d sf)(hk:LfOk tx d sf):
 Calls Tryz.prog 57 #[.pointer (some ⟨g,0,none⟩),.string t] w fun e w'=>e= .returned (.int .i64 (lsE d t))∧LeafAt w' g gl (lsT tx d t) (lsD d t) sf∧Gbs w w' [g,gl]:=by
 have hd:=hk.size
 have HH:=AA h
 obtain⟨c0,c1,f0,f1,hg,hgl⟩:=h.cells
 clear h hk
 by_cases hz:200<t.size
 ·have HE:Hid (lsE d t=2):=by unfold Hid lsE;rw[if_pos hz]
  have HT:Hid (lsT tx d t=tx):=by unfold Hid lsT;rw[HE.out,if_neg EF]
  have HD:Hid (lsD d t=d):=by unfold Hid lsD;rw[HE.out,if_neg EF]
  rw[HE.out,HT.out,HD.out]
  go_enter Tryz.func57,Tryz.ntmps57
  go_wp2_with fail
  go_ret
  exact⟨rfl,HH.out,Gbs.refl _ _⟩
 ·have HE:Hid (lsE d t=A0t d (recB t)):=by unfold Hid lsE;rw[if_neg hz]
  have HT:Hid (lsT tx d t=if A0t d (recB t)=0 then t else tx):=by unfold Hid lsT;rw[HE.out]
  have HD:Hid (lsD d t=if A0t d (recB t)=0 then appD d (recB t) else d):=by unfold Hid lsD;rw[HE.out]
  have HL:=AA (fun W (h:LeafAt W g gl tx d sf)=>A2w gl d (recB t) sf W h.log hd)
  by_cases hq:A0t d (recB t)=0
  ·rw[Hid,hq] at HL HE HT HD
   rw[if_pos rfl] at HT HD
   have HL:=AA HL;have HE:=AA HE;have HT:=AA HT;have HD:=AA HD
   clear hq
   rw[HE.out,HT.out,HD.out]
   go_enter Tryz.func57,Tryz.ntmps57
   go_wp2_with fail
   refine(HL.out _ HH.out).mono ?_
   rintro e w3 ⟨rfl,hL3,hg3⟩
   have H3:=AA (HH.out.logged hL3 hg3)
   have hB3:Gbs w w3 [g,gl]:=A3B hg3
   exact C1H
  ·have HDD:=AA (A6u hq)
   rw[Hid,if_neg hq] at HT HD
   rw[Hid,HDD.out] at HL
   have HL:=AA HL;have HT:=AA HT;have HD:=AA HD
   rw[HE.out,HT.out,HD.out]
   have g1:(A0t d (recB t) !=0)=true:=by simpa using hq
   generalize A0t d (recB t)=q at*
   clear hq
   go_enter Tryz.func57,Tryz.ntmps57
   go_wp2_with fail
   refine(HL.out _ HH.out).mono ?_
   rintro e w3 ⟨rfl,hL3,hg3⟩
   have H3:=AA (HH.out.logged hL3 hg3)
   have hB3:Gbs w w3 [g,gl]:=A3B hg3
   clear c0 c1 f0 f1 hL3 hg3
   go_wp2_with fail
   go_ret
   exact⟨rfl,H3.out,hB3⟩
theorem B4p(g gl:Nat)(tx d:ByteArray)(sf:Nat)(w:World)(h:LeafAt w g gl tx d sf):
 Calls Tryz.prog 25 #[.pointer (some ⟨g,0,none⟩)] w fun e w'=>e= .returned (.tuple #[])∧LeafAt w' g gl tx d d.size∧Gbs w w' [g,gl]:=by
 have HH:=AA h
 obtain⟨c0,c1,f0,f1,hg,hgl⟩:=h.cells
 clear h
 go_enter Tryz.func25,Tryz.ntmps25
 go_wp2_with fail
 refine(A5a gl d sf w HH.out.log).mono ?_
 rintro e w3 ⟨rfl,hL3,hg3⟩
 have H3:=AA (HH.out.logged hL3 hg3)
 go_wp2_with fail
 go_end0
 exact⟨rfl,H3.out,A3B hg3⟩
theorem A8C(g gl:Nat)(tx d:ByteArray)(sf:Nat)(w:World)(h:LeafAt w g gl tx d sf):
 Calls Tryz.prog 29 #[.pointer (some ⟨g,0,none⟩)] w fun e w'=>e= .returned (.string tx)∧Below w.heap.size w w':=by
 obtain⟨c0,c1,f0,f1,hg,hgl⟩:=h.cells
 clear h
 go_enter Tryz.func29,Tryz.ntmps29
 go_wp2_with fail
 go_ret
 exact⟨rfl,Ds⟩
theorem B5S(s:ByteArray)(w:World)(hs:s.size≤200):
 Calls Tryz.prog 52 #[.string s] w fun e w'=>e= .returned (.tuple #[.pointer (some ⟨w.heap.size+1,0,none⟩),.int .i64 0])∧LeafAt w' (w.heap.size+1) w.heap.size s (newD s) (newD s).size∧Below w.heap.size w w':=by
 have HE:=AA (A4u hs)
 go_enter Tryz.func52,Tryz.ntmps52
 go_wp2_with fail
 refine(A4I _).mono ?_
 rintro e w1 ⟨rfl,rfl⟩
 go_wp2_with fail
 have H1:LeafAt ((w.alloc (.cells #[.string ⟨#[]⟩,.int .i64 0] 187)).alloc (.cells #[.string s,.pointer (some ⟨w.heap.size,0,none⟩)] 127)) (w.heap.size+1) w.heap.size s ⟨#[]⟩ 0:=by
  refine⟨?_,Blk.alloc (Blk.new_ w _ _) _,by omega⟩
  have:=Blk.new_ (w.alloc (.cells #[.string ⟨#[]⟩,.int .i64 0] 187)) 127 #[.string s,.pointer (some ⟨w.heap.size,0,none⟩)]
  rw[Ar] at this
  exact this
 have hb1:Below w.heap.size w ((w.alloc (.cells #[.string ⟨#[]⟩,.int .i64 0] 187)).alloc (.cells #[.string s,.pointer (some ⟨w.heap.size,0,none⟩)] 127)):=Ds
 generalize((w.alloc (.cells #[.string ⟨#[]⟩,.int .i64 0] 187)).alloc (.cells #[.string s,.pointer (some ⟨w.heap.size,0,none⟩)] 127))=w1 at*
 have HH:=AA H1
 clear H1
 obtain⟨c0,c1,f0,f1,hg,hgl⟩:=HH.out.cells
 go_wp2_with fail
 refine(A2w w.heap.size ⟨#[]⟩ (recB s) 0 _ HH.out.log (AS _)).mono ?_
 rintro e w2 ⟨rfl,hL2,hg2⟩
 have H2:=AA (HH.out.logged hL2 hg2)
 have hb2:Below w.heap.size w w2:=B1s hb1 hg2 (AD _) hb1.size
 clear c0 c1 f0 f1 hg hgl hL2 hg2
 obtain⟨c0,c1,f0,f1,hg,hgl⟩:=H2.out.cells
 go_wp2_with fail
 refine(A5a w.heap.size _ 0 _ H2.out.log).mono ?_
 rintro e w3 ⟨rfl,hL3,hg3⟩
 have H3:=AA (H2.out.logged hL3 hg3)
 have hb3:Below w.heap.size w w3:=B1s hb2 hg3 (AD _) hb2.size
 go_wp2_with fail
 go_ret2
 exact⟨rfl,H3.out,hb3⟩
def B1g:Value→Nat
 | .string t=>t.size
 |_=>0
theorem B7T{s:List UInt8}(h:A0I s 32 200=none):A2W s=none:=by unfold A2W;rw[h]
theorem B7U{s r1:List UInt8}{a:Nat}(h1:A0I s 32 200=some (a,r1))(h:A0I r1 32 200=none):A2W s=none:=by
 unfold A2W;rw[h1];simp only;rw[h]
theorem B7V{s r1 r2:List UInt8}{a d:Nat}(h1:A0I s 32 200=some (a,r1))(h2:A0I r1 32 200=some (d,r2))(h:A0I r2 58 40=none):A2W s=none:=by
 unfold A2W;rw[h1];simp only;rw[h2];simp only;rw[h]
theorem B7W{s r1 r2 r3:List UInt8}{a d n:Nat}(h1:A0I s 32 200=some (a,r1))(h2:A0I r1 32 200=some (d,r2))(h3:A0I r2 58 40=some (n,r3)):A2W s=A2F r3 a d n:=by
 unfold A2W;rw[h1];simp only;rw[h2];simp only;rw[h3]
def A7C(s:List UInt8)(out:List Ed)(c:Int):Prop:=(A2R 0 s=some out∧c=0)∨(A2R 0 s=none∧c=12∧out=[])
theorem A8D{t:ByteArray}(h:t.size≠0):L t≠ []:=fun e=>h (by rw[←A0e,e];rfl)
theorem L_pre(r:ByteArray)(n:Nat):L (r.extract 0 n)=(L r).take n:=by
 rw[A0x,Az,Bh]
theorem B3B{r:ByteArray}{a d n:Nat}(hn:n<r.size)(h:r[n]=59):A2F (L r) a d n=some (⟨(a:Int),(d:Int),(L r).take n⟩,L (r.extract (n+1) r.size)):=by
 unfold A2F
 rw[if_pos ⟨by rw[A0e];exact hn,by rw[A5p hn];exact h⟩,A0x,AX (l:=List.drop (n+1) (L r)) (by rw[AZ,A0e];exact AD _)]
theorem B1L{r:ByteArray}{a d n:Nat}(hn:r.size≤n):A2F (L r) a d n=none:=by
 unfold A2F
 rw[if_neg (fun h=>by have:=h.1;rw[A0e] at this;omega)]
theorem B1M{r:ByteArray}{a d n:Nat}(hn:n<r.size)(h:r[n]≠59):A2F (L r) a d n=none:=by
 unfold A2F
 rw[if_neg (fun h2=>h (by rw[←A5p hn];exact h2.2))]
theorem B7X(s:ByteArray)(hs:s.size≤140737488355328)(w:World):
 Calls Tryz.prog 120 #[.string s] w fun e w'=>∃(v:Value) (out:List Ed) (c:Int),e= .returned (.tuple #[v,.int .i64 c])∧A7C (L s) out c∧
  w'.ownsRow w.heap.size 95 3 v out.length (A0f out)∧Below w.heap.size w w':=by
 obtain⟨i0,hi0,hz0,hz1,hz2⟩:=info_parts A7A
 have HN32:Hid (∀(t:ByteArray) (W:World),t.size≤140737488355328→Calls Tryz.prog 172 #[.string t,.int .u8 32,.int .i64 200] W fun e w'=>∃(n:Int) (rest:ByteArray) (ok:Bool),e= .returned (.tuple #[.int .i64 n,.string rest,.bool ok])∧
  (ok=true→∃v:Nat,n=(v:Int)∧v≤200∧rest.size<t.size∧A0I (L t) 32 200=some (v,L rest))∧(ok=false→A0I (L t) 32 200=none)∧Below W.heap.size W w'):=fun t W ht=>A8x t 32 200 EF ht W
 have HN58:Hid (∀(t:ByteArray) (W:World),t.size≤140737488355328→Calls Tryz.prog 172 #[.string t,.int .u8 58,.int .i64 40] W fun e w'=>∃(n:Int) (rest:ByteArray) (ok:Bool),e= .returned (.tuple #[.int .i64 n,.string rest,.bool ok])∧
  (ok=true→∃v:Nat,n=(v:Int)∧v≤40∧rest.size<t.size∧A0I (L t) 58 40=some (v,L rest))∧(ok=false→A0I (L t) 58 40=none)∧Below W.heap.size W w'):=fun t W ht=>A8x t 58 40 EF ht W
 go_enter Tryz.func120,Tryz.ntmps120
 go_wp2_with fail
 go_loopw [0,4] (fun sv ov wr=>∃(t:ByteArray) (q:List Ed),sv= .string t∧t.size≤s.size∧q.length≤20∧Hid (A2R 0 (L s)=(A2R q.length (L t)).map (q++·))∧
  wr.ownsRow w.heap.size 95 3 ov q.length (A0f q)∧Below w.heap.size w wr) (fun sv _ _=>B1g sv)
 case atStart=>exact⟨s,[],rfl,AD _,by simp,AA EH,Ad _ _ _ _,AI _ _⟩
 case round=>
  obtain⟨t,q,rfl,hts,hq,HI,hown,hbr⟩:=hrel
  have hbs:=hbr.size
  by_cases h0:t.size=0
  ·obtain⟨g2,g3⟩:=(A3b t).1 h0
   have HV:Hid (A7C (L s) q 0):= .inl ⟨by
    have:=HI.out
    rw[AU ((A0e t).trans h0),B5C hq] at this
    simpa using this,rfl⟩
   have HO:=AA hown
   clear h0 HI hown
   go_wp2_with fail
   go_ret2
   exact⟨_,q,0,rfl,HV.out,HO.out,hbr⟩
  obtain⟨g2,g3⟩:=(A3b t).2 h0
  have hne:=A8D h0
  have HBAD:Hid (A2R q.length (L t)=none→A7C (L s) [] 12):=fun h=> .inr ⟨by rw[HI.out,h];rfl,rfl,rfl⟩
  by_cases h20:q.length=20
  ·have g4:((q.length:Int)==20)=true:=by rw[At];omega
   have HV:=AA (HBAD.out (by rw[h20];exact B4m hne))
   obtain⟨A,c,rfl,hnc,hcm,hrx⟩:=A1e hown
   clear HI hown HBAD hne h20 hrx
   go_wp2_with fail
   go_ret2
   exact⟨_,[],12,rfl,HV.out,Ad _ _ _ _,hbr⟩
  have g4:((q.length:Int)==20)=false:=by rw[AH];omega
  have HBADE:Hid (A2W (L t)=none→A7C (L s) [] 12):=fun h=>HBAD.out (by rw[A8w hne,h])
  have HGO:Hid (∀x t',A2W (L t)=some (x,L t')→A2R 0 (L s)=(A2R (q++ [x]).length (L t')).map ((q++ [x])++·)):=fun x t' h=>by
   rw[HI.out,A8w hne,h]
   simp only
   rw[B3u,AJ];rfl
  have hO:=AA hown
  obtain⟨A,c,rfl,hnc,hcm,hrx⟩:=A1e hown
  have hq2:q.length<20:=EE
  clear HI hown HBAD hne h20 hrx
  go_wp2_with fail
  refine(HN32.out t _ EE).mono ?_
  rintro e w1 ⟨n1,r1,ok,rfl,hok,hno,hb1⟩
  cases ok with
  |false=>
   have HV:=AA (HBADE.out (B7T (hno rfl)))
   clear hok hno HBADE HGO
   go_wp2_with fail
   go_ret2
   exact⟨_,[],12,rfl,HV.out,Ad _ _ _ _,A0h hbr hb1⟩
  |true=>
  obtain⟨a,rfl,ha,hr1,HP1⟩:=hok rfl
  have HP1:=AA HP1
  clear hno hok
  go_wp2_with fail
  refine(HN32.out r1 _ EE).mono ?_
  rintro e w2 ⟨n2,r2,ok,rfl,hok,hno,hb2⟩
  cases ok with
  |false=>
   have HV:=AA (HBADE.out (B7U HP1.out (hno rfl)))
   clear hok hno HBADE HGO HP1
   go_wp2_with fail
   go_ret2
   exact⟨_,[],12,rfl,HV.out,Ad _ _ _ _,A0h hbr (A0h hb1 hb2)⟩
  |true=>
  obtain⟨d,rfl,hd,hr2,HP2⟩:=hok rfl
  have HP2:=AA HP2
  clear hno hok
  go_wp2_with fail
  refine(HN58.out r2 _ EE).mono ?_
  rintro e w3 ⟨n3,r3,ok,rfl,hok,hno,hb3⟩
  cases ok with
  |false=>
   have HV:=AA (HBADE.out (B7V HP1.out HP2.out (hno rfl)))
   clear hok hno HBADE HGO HP1 HP2
   go_wp2_with fail
   go_ret2
   exact⟨_,[],12,rfl,HV.out,Ad _ _ _ _,A0h hbr (A0h hb1 (A0h hb2 hb3))⟩
  |true=>
  obtain⟨n,rfl,hn,hr3,HP3⟩:=hok rfl
  have HEN:=AA (B7W HP1.out HP2.out HP3)
  clear hno hok HP1 HP2 HP3
  have hb4:=A0h hbr (A0h hb1 (A0h hb2 hb3))
  have hbs4:=hb4.size
  by_cases hlt:n<r3.size
  ·have g5:decide ((r3.size:Int)≤(n:Int))=false:=AC EE
   have g5':decide (r3.size≤n)=false:=AC EE
   by_cases h59:r3[n]=59
   ·have g6:((r3[n].toNat:Int)==59)=true:=by rw[h59];rfl
    have g6':(r3[n].toNat==59)=true:=by rw[h59];rfl
    have g6'':((r3[n].toNat:Int) !=59)=false:=by rw[bne,g6];rfl
    have HN2:=AA (HGO.out _ _ (HEN.out.trans (B3B hlt h59)))
    have hex:(r3.extract (n+1) r3.size).size<r3.size:=by rw[Ak];omega
    have HEL:Hid (S ((L r3).take n)=r3.extract 0 n):=by
     unfold Hid
     rw[←L_pre,S_L]
    clear HEN HGO HBADE h59
    have hown3:=AA (A1l hO.out (A0h hb1 (A0h hb2 hb3)))
    go_wp2_with (at_builtin;go_must (refine A0r rfl _ _ _ rfl w.heap.size 95 i0 _ 3 32 Tryz.underlying30 hi0 hz0 hz1 hz2 rfl EE _ q.length (A0f q) rfl (BE hown3.out _) ⟨_,0,none⟩ 1 1 [.int .i64 (a:Int),.int .i64 (d:Int),.string (r3.extract 0 n)] rfl rfl (A3u _ _ _ _ _) (by simp[Value.oneCell']) EE EE (by simp;omega) ?_);intro v6 w6 hown6 hg6 hb6)
    have hB6:Below w.heap.size w w6:=(hb4.alloc (by have:=hb4.size;omega) _).trans hb6
    go_roundw
    case rel=>
     refine⟨_,q++ [⟨(a:Int),(d:Int),(L r3).take n⟩],rfl,by omega,by simp;omega,HN2, ?_,hB6⟩
     rw[AJ,A3z]
     have e1:A0f [⟨(a:Int),(d:Int),(L r3).take n⟩]=[.int .i64 (a:Int),.int .i64 (d:Int),.string (r3.extract 0 n)]:=by
      rw[←HEL.out];rfl
     rw[e1];exact hown6
    case measure=>simp[B1g];omega
   ·have hz:r3[n].toNat≠59:=fun e=>h59 (Bo.1 (e.trans (rfl:59=(59:UInt8).toNat)))
    have g6:((r3[n].toNat:Int)==59)=false:=by rw[AH];omega
    have g6':(r3[n].toNat==59)=false:=by rw[AH];exact hz
    have g6'':((r3[n].toNat:Int) !=59)=true:=by rw[bne,g6];rfl
    have HV:=AA (HBADE.out (HEN.out.trans (B1M hlt h59)))
    clear HEN HGO HBADE h59 hz
    exact C2k
  ·have g5:decide ((r3.size:Int)≤(n:Int))=true:=AG EE
   have g5':decide (r3.size≤n)=true:=AG EE
   have HV:=AA (HBADE.out (HEN.out.trans (B1L EE)))
   clear HEN HGO HBADE
   exact C2k
theorem A5D{s a r:List UInt8}{c:UInt8}{o:Bool}(h:Lib.cut s [c]=(a,r,o)):(o=true∧A1I s c=some (a,r)∧r.length<s.length∧a.length≤s.length)∨(o=false∧A1I s c=none∧r=[]∧a=s):=by
 rw[B8F] at h
 cases hc:A1I s c with
 |none=>
  rw[hc] at h
  simp only[Prod.mk.injEq] at h
  exact .inr ⟨h.2.2.symm,rfl,h.2.1.symm,h.1.symm⟩
 |some p=>
  obtain⟨x,y⟩:=p
  rw[hc] at h
  simp only[Prod.mk.injEq] at h
  obtain⟨rfl,rfl,rfl⟩:=h
  refine .inl ⟨rfl,rfl,A9Y hc, ?_⟩
  rw[(A4W hc).1,AJ];omega
theorem A5s{s a r:List UInt8}{c:UInt8}{v:Nat}(h:Lib.cut s [c]=(a,r,true))(hv:A0X a=some v):A1k s c=some (v,r):=by
 rcases A5D h with⟨_,h1,_⟩|⟨h1,_⟩
 ·unfold A1k;rw[h1];simp only;rw[hv];rfl
 ·cases h1
theorem A6Z{s a r:List UInt8}{c:UInt8}(h:Lib.cut s [c]=(a,r,false)):A1k s c=none:=by
 rcases A5D h with⟨h1,_⟩|⟨_,h1,_⟩
 ·cases h1
 ·unfold A1k;rw[h1]
theorem A7a{s a r:List UInt8}{c:UInt8}{o:Bool}(h:Lib.cut s [c]=(a,r,o))(hv:A0X a=none):A1k s c=none:=by
 rcases A5D h with⟨_,h1,_⟩|⟨_,h1,_⟩
 ·unfold A1k;rw[h1];simp only;rw[hv];rfl
 ·unfold A1k;rw[h1]
theorem B7Y{s a r1 d r2 c r3:List UInt8}{o1 o2 o3:Bool}(h1:Lib.cut s [32]=(a,r1,o1))(h2:Lib.cut r1 [32]=(d,r2,o2))(h3:Lib.cut r2 [58]=(c,r3,o3))(h:o1=false∨o2=false∨o3=false∨A0X a=none∨A0X d=none∨A0X c=none):A1G s=none:=by
 unfold A1G
 cases k1:A1k s 32 with
 |none=>rfl
 |some p1=>
  obtain⟨v1,x1⟩:=p1
  cases o1 with
  |false=>rw[A6Z h1] at k1;cases k1
  |true=>
  cases w1:A0X a with
  |none=>rw[A7a h1 w1] at k1;cases k1
  |some u1=>
  rw[A5s h1 w1] at k1
  obtain⟨rfl,rfl⟩:=Prod.mk.inj (Aw k1)
  simp only
  cases k2:A1k r1 32 with
  |none=>rfl
  |some p2=>
   obtain⟨v2,x2⟩:=p2
   cases o2 with
   |false=>rw[A6Z h2] at k2;cases k2
   |true=>
   cases w2:A0X d with
   |none=>rw[A7a h2 w2] at k2;cases k2
   |some u2=>
   rw[A5s h2 w2] at k2
   obtain⟨rfl,rfl⟩:=Prod.mk.inj (Aw k2)
   simp only
   cases k3:A1k r2 58 with
   |none=>rfl
   |some p3=>
    obtain⟨v3,x3⟩:=p3
    exfalso
    cases o3 with
    |false=>rw[A6Z h3] at k3;cases k3
    |true=>
    cases w3:A0X c with
    |none=>rw[A7a h3 w3] at k3;cases k3
    |some u3=>
    rw[w1,w2,w3] at h
    simp at h
theorem B7Z{s a r1 d r2 c r3:List UInt8}{va vd vc:Nat}(h1:Lib.cut s [32]=(a,r1,true))(h2:Lib.cut r1 [32]=(d,r2,true))(h3:Lib.cut r2 [58]=(c,r3,true))(k1:A0X a=some va)(k2:A0X d=some vd)(k3:A0X c=some vc):A1G s=A2F r3 va vd vc:=by
 unfold A1G
 rw[A5s h1 k1];simp only
 rw[A5s h2 k2];simp only
 rw[A5s h3 k3]
def A8E(s:List UInt8)(out:List Ed)(ok:Bool):Prop:=(A2G s=some out∧ok=decide (A1d out=0))∨(A2G s=none∧ok=false∧out=[])
theorem A9z(t:ByteArray)(c:UInt8)(m:Int)(W:World)(ht:t.size≤1048576)(hm:W.cell? ⟨0,0,none⟩=some (.int .i64 m)):
 Calls Tryz.prog 204 #[.string t,.string ⟨#[c]⟩] W fun e w'=>∃(a r:ByteArray) (o:Bool),e= .returned (.tuple #[.string a,.string r,.bool o])∧Lib.cut (L t) [c]=(L a,L r,o)∧a.size≤t.size∧r.size≤t.size∧(o=true→r.size<t.size)∧Below W.heap.size W w':=by
 refine(Tryz.strings_Cut t ⟨#[c]⟩ m W EE hm).mono ?_
 rintro e w' ⟨rfl,n,rfl⟩
 have e1:Lib.cut t.data.toList (⟨#[c]⟩:ByteArray).data.toList=Lib.cut (L t) [c]:=rfl
 rw[e1]
 obtain⟨⟨a,r,o⟩,hq⟩:∃q,Lib.cut (L t) [c]=q:=⟨_,rfl⟩
 rw[hq]
 refine⟨S a,S r,o,rfl,by rw[L_S,L_S], ?_⟩
 rw[A0b,A0b,←A0e t]
 have hbn:Below W.heap.size W (W.drewN n):=A0d (AI _ _) n
 rcases A5D hq with⟨h1,_,h2,h3⟩|⟨h1,_,h2,h3⟩
 ·exact⟨h3,by omega,fun _=>h2,hbn⟩
 ·subst h2 h3
  exact⟨AD _,by simp,(fun h=>by rw[h1] at h;cases h),hbn⟩
theorem A7b(a:ByteArray)(ha:a.size≤1048576)(w:World):
 Calls Tryz.prog 205 #[.string a] w fun e w'=>∃(n:Nat) (p:Bool),e= .returned (.tuple #[.int .i64 (n:Int),.bool p])∧(p=true→A0X (L a)=some n)∧(p=false→A0X (L a)=none)∧n≤999∧Below w.heap.size w w':=by
 refine(B2V a EE w).mono ?_
 rintro e w' ⟨he,hb⟩
 unfold A6b at he
 cases hv:A0X (L a) with
 |none=>rw[hv] at he;exact⟨0,false,he,(fun h=>by cases h),(fun _=>rfl),by omega,hb⟩
 |some v=>rw[hv] at he;exact⟨v,true,he,(fun _=>rfl),(fun h=>by cases h),B1A hv,hb⟩
theorem B4q(s:ByteArray)(hs:s.size≤1048576)(m:Int)(w:World)(hm:w.cell? ⟨0,0,none⟩=some (.int .i64 m))(hw0:0<w.heap.size):
 Calls Tryz.prog 181 #[.string s] w fun e w'=>∃(v:Value) (out:List Ed) (ok:Bool),e= .returned (.tuple #[v,.bool ok])∧A8E (L s) out ok∧
  w'.ownsRow w.heap.size 95 3 v out.length (A0f out)∧Below w.heap.size w w':=by
 obtain⟨i0,hi0,hz0,hz1,hz2⟩:=info_parts A7A
 have HM:Hid (∀W,Below w.heap.size w W→W.cell? ⟨0,0,none⟩=some (.int .i64 m)):=fun W hb=>(hb.cell (p:=⟨0,0,none⟩) hw0).trans hm
 clear hm
 go_enter Tryz.func181,Tryz.ntmps181
 go_wp2_with fail
 go_loopw [0,4] (fun sv ov wr=>∃(t:ByteArray) (q:List Ed),sv= .string t∧q.length+t.size≤s.size∧Hid (A2G (L s)=(A2G (L t)).map (q++·))∧
  wr.ownsRow w.heap.size 95 3 ov q.length (A0f q)∧Below w.heap.size w wr) (fun sv _ _=>B1g sv)
 case atStart=>exact⟨s,[],rfl,by simp,AA EH,Ad _ _ _ _,AI _ _⟩
 case round=>
  obtain⟨t,q,rfl,hts,HI,hown,hbr⟩:=hrel
  have hbs:=hbr.size
  by_cases h0:t.size=0
  ·obtain⟨g2,g3⟩:=(A3b t).1 h0
   have HV:Hid (A8E (L s) q (decide (A1d q=0))):= .inl ⟨by
    have:=HI.out
    rw[AU ((A0e t).trans h0),B0a] at this
    simpa using this,rfl⟩
   have HO:=AA hown
   obtain⟨A,c,rfl,hnc,hcm,hrx⟩:=A1e hown
   have hml:maxLen≤9223372036854775807:=by decide
   have HER:=AA (B2T q A q.length c wr.heap.size wr (Rd.of_own hown) (AD _) EE)
   clear h0 HI hown hrx
   have hdz:((A1d q==(0:Int))=decide (A1d q=0)):=by
    rw[BR];simp
   have HDZ:=AA hdz;clear hdz
   generalize A1d q=z at*
   go_wp2_with fail
   refine HER.out.mono ?_
   rintro e w2 ⟨rfl,hb2⟩
   go_wp2_with fail
   go_ret2
   exact⟨_,q,_,rfl,by rw[HDZ.out];exact HV.out,A1l HO.out hb2,A0h hbr hb2⟩
  obtain⟨g2,g3⟩:=(A3b t).2 h0
  have hne:=A8D h0
  have HBADE:Hid (A1G (L t)=none→A8E (L s) [] false):=fun h=> .inr ⟨by rw[HI.out,A4i hne,h];rfl,rfl,rfl⟩
  have HGO:Hid (∀x t',A1G (L t)=some (x,L t')→A2G (L s)=(A2G (L t')).map ((q++ [x])++·)):=fun x t' h=>by
   rw[HI.out,A4i hne,h]
   simp only
   rw[B3u]
  have hO:=AA hown
  obtain⟨A,c,rfl,hnc,hcm,hrx⟩:=A1e hown
  clear HI hown hne h0 hrx
  go_wp2_with fail
  refine(A9z t 32 m _ EE (HM.out _ hbr)).mono ?_
  rintro e w1 ⟨s1,r1,o1,rfl,hc1,hl1,hr1,ho1,hb1⟩
  have HC1:=AA hc1
  have HO1:=AA ho1
  clear hc1 ho1
  have hb5:=A0h hbr hb1
  go_wp2_with fail
  refine(A9z r1 32 m _ EE (HM.out _ hb5)).mono ?_
  rintro e w2 ⟨s2,r2,o2,rfl,hc2,hl2,hr2,ho2,hb2⟩
  have HC2:=AA hc2
  clear hc2 ho2
  have hb6:=A0h hb5 hb2
  go_wp2_with fail
  refine(A9z r2 58 m _ EE (HM.out _ hb6)).mono ?_
  rintro e w3 ⟨s3,r3,o3,rfl,hc3,hl3,hr3,ho3,hb3⟩
  have HC3:=AA hc3
  clear hc3 ho3
  have hb7:=A0h hb6 hb3
  go_wp2_with fail
  refine(A7b s1 EE _).mono ?_
  rintro e w4 ⟨n1,p1,rfl,hy1,hz1',hn1,hb4⟩
  have hb8:=A0h hb7 hb4
  go_wp2_with fail
  refine(A7b s2 EE _).mono ?_
  rintro e w5 ⟨n2,p2,rfl,hy2,hz2',hn2,hb5'⟩
  have hb9:=A0h hb8 hb5'
  go_wp2_with fail
  refine(A7b s3 EE _).mono ?_
  rintro e w6 ⟨n3,p3,rfl,hy3,hz3',hn3,hb6'⟩
  have hb10:=A0h hb9 hb6'
  have hbs10:=hb10.size
  have HEF:Hid (o1=false∨o2=false∨o3=false∨p1=false∨p2=false∨p3=false→A1G (L t)=none):=fun h=>B7Y HC1.out HC2.out HC3.out (by
   rcases h with h|h|h|h|h|h
   ·exact .inl h
   ·exact .inr (.inl h)
   ·exact .inr (.inr (.inl h))
   ·exact .inr (.inr (.inr (.inl (hz1' h))))
   ·exact .inr (.inr (.inr (.inr (.inl (hz2' h)))))
   ·exact .inr (.inr (.inr (.inr (.inr (hz3' h))))))
  have HET:Hid (o1=true→o2=true→o3=true→p1=true→p2=true→p3=true→A1G (L t)=A2F (L r3) n1 n2 n3):=fun k1 k2 k3 k4 k5 k6=>by
   subst k1 k2 k3
   exact B7Z HC1.out HC2.out HC3.out (hy1 k4) (hy2 k5) (hy3 k6)
  have hown6:=AA (A1l hO.out (A0h hb1 (A0h hb2 (A0h hb3 (A0h hb4 (A0h hb5' hb6'))))))
  clear HC1 HC2 HC3 hy1 hy2 hy3 hz1' hz2' hz3' hO hb1 hb2 hb3 hb4 hb5' hb6' hb5 hb6 hb7 hb8 hb9 hbr
  cases o1 with
  |false=>
   have HV:=AA (HBADE.out (HEF.out (.inl rfl)))
   clear HEF HET HGO HBADE
   go_wp2_with fail
   go_ret2
   exact⟨_,[],false,rfl,HV.out,Ad _ _ _ _,hb10⟩
  |true=>
  have ho1:=HO1.out rfl
  clear HO1
  cases o2 with
  |false=>
   have HV:=AA (HBADE.out (HEF.out (.inr (.inl rfl))))
   clear HEF HET HGO HBADE
   go_wp2_with fail
   go_ret2
   exact⟨_,[],false,rfl,HV.out,Ad _ _ _ _,hb10⟩
  |true=>
  cases o3 with
  |false=>
   have HV:=AA (HBADE.out (HEF.out (.inr (.inr (.inl rfl)))))
   clear HEF HET HGO HBADE
   go_wp2_with fail
   go_ret2
   exact⟨_,[],false,rfl,HV.out,Ad _ _ _ _,hb10⟩
  |true=>
  cases p1 with
  |false=>
   have HV:=AA (HBADE.out (HEF.out (.inr (.inr (.inr (.inl rfl))))))
   clear HEF HET HGO HBADE
   go_wp2_with fail
   go_ret2
   exact⟨_,[],false,rfl,HV.out,Ad _ _ _ _,hb10⟩
  |true=>
  cases p2 with
  |false=>
   have HV:=AA (HBADE.out (HEF.out (.inr (.inr (.inr (.inr (.inl rfl)))))))
   clear HEF HET HGO HBADE
   go_wp2_with fail
   go_ret2
   exact⟨_,[],false,rfl,HV.out,Ad _ _ _ _,hb10⟩
  |true=>
  cases p3 with
  |false=>
   have HV:=AA (HBADE.out (HEF.out (.inr (.inr (.inr (.inr (.inr rfl)))))))
   clear HEF HET HGO HBADE
   go_wp2_with fail
   go_ret2
   exact⟨_,[],false,rfl,HV.out,Ad _ _ _ _,hb10⟩
  |true=>
  have HEN:=AA (HET.out rfl rfl rfl rfl rfl rfl)
  clear HET HEF
  by_cases hlt:n3<r3.size
  ·have g5:decide ((r3.size:Int)≤(n3:Int))=false:=AC EE
   have g5':decide (r3.size≤n3)=false:=AC EE
   by_cases h59:r3[n3]=59
   ·have g6:((r3[n3].toNat:Int)==59)=true:=by rw[h59];rfl
    have g6':(r3[n3].toNat==59)=true:=by rw[h59];rfl
    have g6'':((r3[n3].toNat:Int) !=59)=false:=by rw[bne,g6];rfl
    have HN2:=AA (HGO.out _ _ (HEN.out.trans (B3B hlt h59)))
    have hex:(r3.extract (n3+1) r3.size).size<r3.size:=by rw[Ak];omega
    have HEL:Hid (S ((L r3).take n3)=r3.extract 0 n3):=by
     unfold Hid
     rw[←L_pre,S_L]
    clear HEN HGO HBADE h59
    go_wp2_with (at_builtin;go_must (refine A0r rfl _ _ _ rfl w.heap.size 95 i0 _ 3 32 Tryz.underlying30 hi0 hz0 hz1 hz2 rfl EE _ q.length (A0f q) rfl (BE hown6.out _) ⟨_,0,none⟩ 1 1 [.int .i64 (n1:Int),.int .i64 (n2:Int),.string (r3.extract 0 n3)] rfl rfl (A3u _ _ _ _ _) (by simp[Value.oneCell']) EE EE (by simp;omega) ?_);intro v6 w7 hown7 hg7 hb7)
    have hB6:Below w.heap.size w w7:=(hb10.alloc (by have:=hb10.size;omega) _).trans hb7
    go_roundw
    case rel=>
     refine⟨_,q++ [⟨(n1:Int),(n2:Int),(L r3).take n3⟩],rfl,by simp;omega,HN2, ?_,hB6⟩
     rw[AJ,A3z]
     have e1:A0f [⟨(n1:Int),(n2:Int),(L r3).take n3⟩]=[.int .i64 (n1:Int),.int .i64 (n2:Int),.string (r3.extract 0 n3)]:=by
      rw[←HEL.out];rfl
     rw[e1];exact hown7
    case measure=>simp[B1g];omega
   ·have hz:r3[n3].toNat≠59:=fun e=>h59 (Bo.1 (e.trans (rfl:59=(59:UInt8).toNat)))
    have g6:((r3[n3].toNat:Int)==59)=false:=by rw[AH];omega
    have g6':(r3[n3].toNat==59)=false:=by rw[AH];exact hz
    have g6'':((r3[n3].toNat:Int) !=59)=true:=by rw[bne,g6];rfl
    have HV:=AA (HBADE.out (HEN.out.trans (B1M hlt h59)))
    clear HEN HGO HBADE h59 hz
    exact C2i
  ·have g5:decide ((r3.size:Int)≤(n3:Int))=true:=AG EE
   have g5':decide (r3.size≤n3)=true:=AG EE
   have HV:=AA (HBADE.out (HEN.out.trans (B1L EE)))
   clear HEN HGO HBADE
   exact C2i
end Go.Proofs.YtplgghjdidmcfaaGreatDoor
