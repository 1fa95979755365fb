/- Written anew, smaller, by a program of our own out of our texts. No condition of our own. -/
import Derived.Test.YtplgghjdidmcfaaGreatDoorQ21
import Derived.Test.YtplgghjdidmcfaaGreatDoorQ09
import Derived.Test.YtplgghjdidmcfaaGreatDoorQ29
set_option maxRecDepth 100000
set_option maxHeartbeats 16000000
set_option linter.all false
namespace Go.Proofs.YtplgghjdidmcfaaGreatDoor
section
variable {f:Nat→List UInt8} {c:Nat} {p:List Nat}
end
end Go.Proofs.YtplgghjdidmcfaaGreatDoor
namespace Go.Proofs.YtplgghjdidmcfaaGreatDoor
open Go.RowKit
theorem A5z(A:Option Addr)(n c B:Nat)(l:List (List UInt8))(w:World)(hr:Rd w B 1 A n (strCells l))(hB:B≤w.heap.size)(hn:n≤1000):
 Calls Tryz.prog 65 #[.slice A n c] w fun e w'=>∃v,e= .returned v∧w'.ownsRow w.heap.size 9 1 v n (strCells l)∧Below w.heap.size w w':=by
 rcases BP n with rfl|h0
 ·have hl:l=[]:=AU (by have:=hr.1;simpa[strCells] using this)
  subst hl
  cases A with
  |none=>
   refine(Tryz.slices_Clone_string_nil 0 c w).mono ?_
   rintro e w' ⟨rfl,rfl⟩
   exact⟨_,rfl,Ad _ _ _ _,AI _ _⟩
  |some a=>
   refine(Tryz.slices_Clone_string_zero a c w).mono ?_
   rintro e w' ⟨v,rfl,h1,_,h2⟩
   exact⟨v,rfl,h1,h2⟩
 ·exact B5D A n c B l w hr hB hn h0
def Rc.arr(r:Rc):Array Value:= #[.string r.s.nm,.string r.s.tx,.string r.s.d,.int .i64 (r.s.sf:Int),.slice r.Ab r.s.back.length r.cb,.slice r.Ao r.s.onward.length r.co]
abbrev A1u:Array Value:= #[.string ⟨#[]⟩,.string ⟨#[]⟩,.string ⟨#[]⟩,.int .i64 0,.slice none 0 0,.slice none 0 0]
structure P3 (w:World) (g:Nat) (cs:Array Value) (x:Dd):Prop where
 p:Blk w g 82 cs
 d:Blk w (g+1) 32 x.cells
 z:Blk w (g+1+1) 82 A1u
section
variable {w w':World} {g:Nat} {cs:Array Value} {x:Dd}
theorem P3.below(h:P3 w g cs x)(hb:Below w.heap.size w w'):P3 w' g cs x:=⟨h.p.below' hb,h.d.below' hb,h.z.below' hb⟩
theorem P3.set_(h:P3 w g cs x)(i:Nat)(u:Value):P3 (w.setCell ⟨g,i,none⟩ u) g (cs.setIfInBounds i u) x:=
 ⟨h.p.set_ i u,h.d.far (p:=⟨g,i,none⟩) (by show g+1≠g;omega) u,h.z.far (p:=⟨g,i,none⟩) (by show g+1+1≠g;omega) u⟩
end
theorem A5A(w:World)(cs:Array Value)(x:Dd):P3 (((w.alloc (.cells cs 82)).alloc (.cells x.cells 32)).alloc (.cells A1u 82)) w.heap.size cs x:=by
 refine⟨((Blk.new_ _ _ _).alloc _).alloc _, ?_, ?_⟩
 ·have:=Blk.new_ (w.alloc (.cells cs 82)) 32 x.cells
  rw[Ar] at this
  exact this.alloc _
 ·have:=Blk.new_ ((w.alloc (.cells cs 82)).alloc (.cells x.cells 32)) 82 A1u
  rw[Ar,Ar] at this
  exact this
def A2S(w:World)(K:Nat→Prop)(r:Rc)(x:Dd)(e:Ending)(w':World):Prop:=
 ∃r':Rc,e= .returned (.tuple #[r'.val,.int .i64 (pgE r.s x)])∧r'.s=pgP r.s x∧RcAt w' K r'∧Below w.heap.size w w'
structure RfOk (w:World) (K:Nat→Prop) (r:Rc) (x:Dd):Prop where
 at_:RcAt w K r
 k:∀k,K k→k<w.heap.size
 o:PsOk r.s
 e:Rd w w.heap.size 3 x.A x.m (A0f x.l)
 m:x.m≤9223372036854775807
 t:TabI w
 x:∃mx,w.cell? ⟨0,0,none⟩=some (.int .i64 mx)
 g:0<w.heap.size
theorem A3r{w WF:World}{K:Nat→Prop}{r':Rc}(hb:Below w.heap.size w WF)(h:∀W,Below w.heap.size w W→RcAt W K r'):RcAt WF K r'∧Below w.heap.size w WF:=⟨h WF hb,hb⟩
theorem bel1{w W:World}{g i:Nat}{a:Value}(hb:Below w.heap.size w W)(hg:w.heap.size≤g):Below w.heap.size w (W.setCell ⟨g,i,none⟩ a):=hb.setCell (p:=⟨g,i,none⟩) hg a
theorem bel6{w W:World}{g:Nat}{a0 a1 a2 a3 a4 a5:Value}(hb:Below w.heap.size w W)(hg:w.heap.size≤g):
 Below w.heap.size w ((((((W.setCell ⟨g,0,none⟩ a0).setCell ⟨g,1,none⟩ a1).setCell ⟨g,2,none⟩ a2).setCell ⟨g,3,none⟩ a3).setCell ⟨g,4,none⟩ a4).setCell ⟨g,5,none⟩ a5):=bel1 (bel1 (bel1 (bel1 (bel1 (bel1 hb hg) hg) hg) hg) hg) hg
theorem bel3{w W:World}{a1 a2 a3:Value}(hb:Below w.heap.size w W):Below w.heap.size w (((W.setCell ⟨w.heap.size,1,none⟩ a1).setCell ⟨w.heap.size,2,none⟩ a2).setCell ⟨w.heap.size,3,none⟩ a3):=bel1 (bel1 (bel1 hb (AD _)) (AD _)) (AD _)
theorem bel45{w W:World}{a4 a5:Value}(hb:Below w.heap.size w W):Below w.heap.size w ((W.setCell ⟨w.heap.size,4,none⟩ a4).setCell ⟨w.heap.size,5,none⟩ a5):=bel1 (bel1 hb (AD _)) (AD _)
theorem le2(n:Nat):n≤n+1+1:=Nat.le_add_right n 2
theorem B2u{w:World}{B n g:Nat}{v:Value}{e:TypeId}{size:Nat}{xs:List Value}(h:OwnO w B e size v n xs)(hg:g<B):v.ownBlock=none∨v.ownBlock≠some g:=by
 cases hv:v.ownBlock with
 |none=>exact .inl rfl
 |some k=>
  refine .inr fun e=> ?_
  have:=(h.lt k hv).1
  cases e
  omega
theorem own6{w:World}{B n g:Nat}{v:Value}{e:TypeId}{size:Nat}{xs:List Value}{a0 a1 a2 a3 a4 a5:Value}(h:OwnO w B e size v n xs)(hg:g<B):
 OwnO ((((((w.setCell ⟨g,0,none⟩ a0).setCell ⟨g,1,none⟩ a1).setCell ⟨g,2,none⟩ a2).setCell ⟨g,3,none⟩ a3).setCell ⟨g,4,none⟩ a4).setCell ⟨g,5,none⟩ a5) B e size v n xs:=by
 have hq:=B2u h hg
 exact(((((h.far hq 0 a0).far hq 1 a1).far hq 2 a2).far hq 3 a3).far hq 4 a4).far hq 5 a5
theorem A5M{w:World}{B n g i:Nat}{v:Value}{e:TypeId}{size:Nat}{xs:List Value}{a:Value}(h:OwnO w B e size v n xs)(hg:g<B):OwnO (w.setCell ⟨g,i,none⟩ a) B e size v n xs:=h.far (B2u h hg) i a
theorem RdK.preS{w:World}{K:Nat→Prop}{A:Option Addr}{n k:Nat}{l:List (List UInt8)}(h:RdK w K 1 A n (strCells l))(hk:k≤n):RdK w K 1 A k (strCells (l.take k)):=⟨h.rd.pre hk,h.off,h.lt⟩
theorem B6O(W:World)(K:Nat→Prop)(s:Ps)(h1:s.back=[])(h2:s.onward=[]):RcAt W K ⟨s,none,0,none,0⟩:=by
 refine⟨?_, ?_, ?_, ?_⟩
 ·show RdK W K 1 none s.back.length (strCells s.back)
  rw[h1];exact RdK.nil_ W K 1
 ·show RdK W K 1 none s.onward.length (strCells s.onward)
  rw[h2];exact RdK.nil_ W K 1
 ·show s.back.length≤0∧_
  rw[h1];exact⟨AD _,AS _⟩
 ·show s.onward.length≤0∧_
  rw[h2];exact⟨AD _,AS _⟩
theorem refPg5(r:Rc)(x:Dd)(K:Nat→Prop)(w:World)(hf:RfOk w K r x)(hkk:x.kind=5):Calls Tryz.prog 37 #[r.val,x.val,.func (.func 10) #[] #[]] w (A2S w K r x):=by
 have hq:=pg5 (s:=r.s) hkk
 obtain⟨hr,hK,hok,hre,hxm,htb,⟨mx,hmx⟩,hmg⟩:=hf
 have HR:=AA hr
 have HOK:=AA hok
 have HRE:Hid (∀W,Below w.heap.size w W→Rd W w.heap.size 3 x.A x.m (A0f x.l)):=fun W hW=>hre.below hW
 have HTB:Hid (∀W,Below w.heap.size w W→TabI W):=fun W hW=>A0c htb hW
 have HMX:Hid (∀W,Below w.heap.size w W→W.cell? ⟨0,0,none⟩=some (.int .i64 mx)):=fun W hb=>(hb.cell (p:=⟨0,0,none⟩) hmg).trans hmx
 have HKK:=AA hK
 have HP3:=AA (A5A w r.arr x)
 have hbA:Below w.heap.size w (((w.alloc (.cells r.arr 82)).alloc (.cells x.cells 32)).alloc (.cells A1u 82)):=Ds
 have HBA:=AA hbA
 unfold A2S
 obtain⟨wA,hwA⟩:∃wA,wA=(((w.alloc (.cells r.arr 82)).alloc (.cells x.cells 32)).alloc (.cells A1u 82)):=⟨_,rfl⟩
 rw[←hwA] at HP3 HBA
 have HWA:=AA hwA
 clear hwA
 clear hr hK hok hre htb hmx hbA
 rw[hq.1,hq.2]
 clear hq
 have HSV:=AA (fun W=>B4I r.s.tx r.s.d r.s.sf W)
 obtain⟨xk,xn,xnm,xt,xA,xm,xc,xl⟩:=x
 obtain⟨⟨rn,rtx,rd,rsf,rb,ro⟩,rAb,rcb,rAo,rco⟩:=r
 unfold Dd.val Rc.val
 unfold Rc.arr Dd.cells at HWA
 unfold Rc.arr at HP3
 simp only at*
 subst hkk
 obtain⟨nb,hnb⟩:∃nb,rb.length=nb:=⟨_,rfl⟩
 obtain⟨no,hno⟩:∃no,ro.length=no:=⟨_,rfl⟩
 rw[hnb,hno] at HP3 HWA⊢
 have HNB:=AA hnb
 have HNO:=AA hno
 clear hnb hno
 go_enter Tryz.func37,Tryz.ntmps37
 go_wp2_with fail
 rw[←HWA.out]
 refine(HSV.out wA).mono ?_
 rintro e w1 ⟨rfl,hb1⟩
 have HB1:=AA (HBA.out.trans (hb1.mono HBA.out.size))
 have HP:=AA (HP3.out.below hb1)
 clear hb1
 have e0:=HP.out.p.cell 0;have e1:=HP.out.p.cell 1;have e2:=HP.out.p.cell 2;have e3:=HP.out.p.cell 3;have e4:=HP.out.p.cell 4;have e5:=HP.out.p.cell 5
 have ef0:=HP.out.p.frozen 0;have ef1:=HP.out.p.frozen 1;have ef2:=HP.out.p.frozen 2;have ef3:=HP.out.p.frozen 3;have ef4:=HP.out.p.frozen 4;have ef5:=HP.out.p.frozen 5
 have d1:w1.cell? ⟨w.heap.size+1,1,none⟩=some (.int .i64 xn):=HP.out.d.cell 1
 have d3:w1.cell? ⟨w.heap.size+1,3,none⟩=some (.string xt):=HP.out.d.cell 3
 have d4:w1.cell? ⟨w.heap.size+1,4,none⟩=some (.slice xA xm xc):=HP.out.d.cell 4
 have z0:w1.cell? ⟨w.heap.size+1+1,0,none⟩=some (.string ⟨#[]⟩):=HP.out.z.cell 0
 have z1:w1.cell? ⟨w.heap.size+1+1,1,none⟩=some (.string ⟨#[]⟩):=HP.out.z.cell 1
 have z2:w1.cell? ⟨w.heap.size+1+1,2,none⟩=some (.string ⟨#[]⟩):=HP.out.z.cell 2
 have z3:w1.cell? ⟨w.heap.size+1+1,3,none⟩=some (.int .i64 0):=HP.out.z.cell 3
 have z4:w1.cell? ⟨w.heap.size+1+1,4,none⟩=some (.slice none 0 0):=HP.out.z.cell 4
 have z5:w1.cell? ⟨w.heap.size+1+1,5,none⟩=some (.slice none 0 0):=HP.out.z.cell 5
 have zf0:=HP.out.z.frozen 0;have zf1:=HP.out.z.frozen 1;have zf2:=HP.out.z.frozen 2;have zf3:=HP.out.z.frozen 3;have zf4:=HP.out.z.frozen 4;have zf5:=HP.out.z.frozen 5
 go_wp2_with fail
 (apply bodyPost_ret;(simp[results,Tryz.results37,go_sem,z0,z1,z2,z3,z4,z5];rfl);rfl)
 have HAT:∀W,Below w.heap.size w W→RcAt W K ⟨svP ⟨rn,rtx,rd,rsf,rb,ro⟩,rAb,rcb,rAo,rco⟩:=fun W hW=>⟨(HR.out.below hW).b,(HR.out.below hW).o,(HR.out.below hW).cb,(HR.out.below hW).co⟩
 have hB1:=HB1.out
 refine⟨⟨svP ⟨rn,rtx,rd,rsf,rb,ro⟩,rAb,rcb,rAo,rco⟩, ?_,rfl, ?_⟩
 ·rw[←HNB.out,←HNO.out]
  rfl
 ·exact A3r (bel6 (bel3 hB1) (le2 _)) HAT
end Go.Proofs.YtplgghjdidmcfaaGreatDoor
