/- Written anew, smaller, by a program of our own out of our texts. No condition of our own. -/
import Derived.Test.YtplgghjdidmcfaaGreatDoorQ07
import Derived.Test.YtplgghjdidmcfaaGreatDoorQ19
import Derived.Test.YtplgghjdidmcfaaGreatDoorQ20
import Derived.Test.YtplgghjdidmcfaaGreatDoorQ05
import Derived.Test.YtplgghjdidmcfaaGreatDoorQ21
import Derived.Test.YtplgghjdidmcfaaGreatDoorQSortF
import Derived.Test.YtplgghjdidmcfaaGreatDoorQShelf
import Derived.Test.YtplgghjdidmcfaaGreatDoorQ01
import Derived.Lib.OwnBridge
import Derived.Shelf.SlSortCmp.Xorshift
import Derived.Test.YtplgghjdidmcfaaGreatDoorQ14
import Derived.Lib.QuietBelow
import Derived.Test.YtplgghjdidmcfaaGreatDoorQ06
set_option maxRecDepth 100000
set_option maxHeartbeats 16000000
set_option linter.all false
namespace Go.Proofs.YtplgghjdidmcfaaGreatDoor
open Go.RowKit
theorem B9O{P:Prop}(h:P:=by
 go_wp2_with fail
 refine(HMU.out _).mono ?_
 rintro e w1 ⟨rfl,rfl⟩
 go_wp2_with fail
 exact⟨rfl,rfl,AI _ _⟩
 ):P:=h
theorem C0L{P:Prop}(h:P:=by
 clear HSX HSY hl hy
 generalize S x=X1 at*
 generalize S y=X2 at*
 go_enter Tryz.func97,Tryz.ntmps97
 go_wp2_with fail
 obtain⟨F1,HF1,hcell10,hcell11⟩:=cells2 ⟨b,o+1,none⟩ (.string X1) ⟨b,o+2,none⟩ (.string X2)
 refine EB [(0,true),(1,true),(2,true),(3,true),(4,true),(5,true),(6,false),(7,true),(8,true),(9,true),(10,true),(11,true)] HF1 ?_
 intro hne1
 simp only[A0i,AT,AP,AR]
 repeat(first|((first|refine Dt ?_|refine Du ?_);intro K hK;go_big_quiet_op;go_big_quiet_on)|((first|refine Dv ?_|refine Dw ?_);simp only[Act.put,AB,AE,AF]))
 refine A0a ?_
 go_wp2_with fail
 refine(HP.out _).mono ?_
 rintro e w1 ⟨rfl,hb1⟩
 have hb1:Below w.heap.size w w1:=(Bl (AI _ _)).trans hb1
 have c1':=(hb1.cell (p:=⟨b,o+1,none⟩) hbw).trans c1
 have c2':=(hb1.cell (p:=⟨b,o+2,none⟩) hbw).trans c2
 go_wp2_with fail
 refine ED HF1 ?_ ⟨c1',c2'⟩
 repeat(first|((first|refine Dt ?_|refine Du ?_);intro K hK;go_big_quiet_op;go_big_quiet_on)|((first|refine Dv ?_|refine Dw ?_);simp only[Act.put,AB,AE,AF]))
 refine A0g ?_
 clear HF1 c1' c2'
 exact C2N
 ):P:=h
theorem C1c{P:Prop}(h:P:=by
 clear HSX hl
 generalize S x=X1 at*
 go_enter Tryz.func97,Tryz.ntmps97
 go_wp2_with fail
 refine(HP.out _).mono ?_
 rintro e w1 ⟨rfl,hb1⟩
 exact C2N
 ):P:=h
theorem C1d{P:Prop}(h:P:=by
 rintro e w3 ⟨rfl,hb3⟩
 have hb4:=hb1.trans (hb3.mono hb1.size)
 go_wp2_with fail
 go_ret
 exact⟨rfl,hb4⟩
 ):P:=h
theorem B9T{P:Prop}(h:P:=by
 refine⟨AQ (B1X _ _) EE,fun z hz=> ?_⟩
 unfold pI at hz
 obtain⟨p,hp,rfl⟩:=DA.1 hz
 obtain⟨_,h2,_⟩:=A7X.1 hp
 exact⟨by simp only[Int.ofNat_eq_natCast];omega,by simp only[Int.ofNat_eq_natCast];omega⟩
 ):P:=h
theorem B9U{P:Prop}(h:P:=by
 refine⟨?_,fun z hz=> ?_⟩
 ·rw[A7i]
  unfold A4m
  exact AQ (Dp _ _) (by rw[List.length_range];omega)
 unfold A1m at hz
 obtain⟨p,hp,rfl⟩:=DA.1 hz
 have:=(B6c.1 hp).1
 omega
 ):P:=h
theorem C1v{P:Prop}(h:P:=by
 go_enter Tryz.func191,Tryz.ntmps191
 go_wp2_with fail
 go_quiet ((go_at_call 192;exact Calls.quiet_of_same (HC _).out))
 go_wp2_with fail
 go_ret
 rw[HV2.out]
 exact⟨rfl,_,rfl⟩
 ):P:=h
theorem C0f{P:Prop}(h:P:=by
 by_cases h0:x=[]
 ·subst h0;unfold A1g;rw[if_pos rfl];omega
 ·have:=(B6d h0).1;omega
 ):P:=h
theorem C0g{P:Prop}(h:P:=by
 unfold dkP
 split
 ·exact h
 ·repeat' split
  ·exact h
  ·exact h
  ·exact h
  ·exact h.step _
 ):P:=h
theorem C0i{P:Prop}(h:P:=by
 unfold Hid
 rw[show(⟨#[32]⟩:ByteArray)=S [32] from rfl,A1i,A1i]
 simp only[L_S]
 ):P:=h
theorem C2G{P:Prop}(h:P:=by
 go_wp2_with fail
 refine(A5j _).mono ?_
 rintro e w2 ⟨rfl,rfl⟩
 go_wp2_with fail
 refine(A9E l A1 l.length n1 _ _ hrd (AD _) (AQ HPL.out.1 EF) HPL.out.2 (A0c ht hb1)).mono ?_
 exact C1d
 ):P:=h
theorem C2J{P:Prop}(h:P:=by
 clear hk hn9
 go_enter Tryz.func97,Tryz.ntmps97
 exact B9O
 ):P:=h
theorem C2M{P:Prop}(h:P:=by
 go_wp2_with fail
 refine(A5j _).mono ?_
 rintro e w2 ⟨rfl,rfl⟩
 go_wp2_with fail
 refine(HI.out _ hb1).mono ?_
 exact C1d
 ):P:=h
theorem C2N{P:Prop}(h:P:=by
 go_wp2_with fail
 refine(HMU.out _).mono ?_
 rintro e w2 ⟨rfl,rfl⟩
 go_wp2_with fail
 exact⟨rfl,rfl,hb1⟩
 ):P:=h
def kPer:List UInt8:=[112,101,114,105,111,100,115]
def A0G:List UInt8:=[102,105,110,100]
def A0v:List UInt8:=[115,112,108,105,116]
def A0H:List UInt8:=[116,117,114,110]
def kFar:List UInt8:=[102,97,114]
def A0O:List UInt8:=[110,97,109,101,115]
def kNew:List UInt8:=[110,101,119]
def A0u:List UInt8:=[101,100,105,116]
def kCut:List UInt8:=[99,117,116]
def A0V:List UInt8:=[109,97,107,101]
def A0Q:List UInt8:=[117,110,100,111]
def A0J:List UInt8:=[114,101,100,111]
def A0E:List UInt8:=[115,97,118,101]
def A0o:List UInt8:=[112,97,99,107]
def A0j:List UInt8:=[99,114,97,115,104]
def A0y:List UInt8:=[116,101,120,116]
def A0w:List UInt8:=[100,114,111,112]
def askN(w:List UInt8):Nat×Nat:=
 if w=kPer then(1,1) else if w=A0G then(2,2) else if w=A0v then(3,1) else if w=A0H then(4,1) else if w=kFar then(5,2) else(0,0)
def askK(w:List UInt8)(n:Nat):Nat:=if(askN w).2=n then(askN w).1 else 0
def A1q(l:List (List UInt8)):Int:=if∃x∈l,200<x.length then 2 else 0
def askE(w:List UInt8)(r:List (List UInt8)):Int:=if askK w r.length=0 then 12 else A1q r
noncomputable def askT(w:List UInt8)(r:List (List UInt8)):List UInt8:=
 let a:=r.getD 0 []
 let b:=r.getD 1 []
 let k:=askK w r.length
 if k=1 then rowS (pI a (a.length+1)) else if k=2 then rowS (A1m a b (a.length+1-b.length)) else if k=3 then Lib.join (lynF a) [32]
 else if k=4 then A1p a++ [32]++Lib.itoa (A1g a:Nat) else Lib.itoa (lev a b:Nat)
noncomputable def askA(w:List UInt8)(r:List (List UInt8)):Ending:=if askE w r=0 then .returned (.string (S (askT w r))) else .panicked [{v:=refV (askE w r),recovered:=false}]
theorem A5k{w:List UInt8}{r:List (List UInt8)}(h:askE w r=0):askA w r= .returned (.string (S (askT w r))):=by unfold askA;rw[if_pos h]
theorem A3X{w:List UInt8}{r:List (List UInt8)}{x:Int}(h:askE w r=x)(hx:x≠0):askA w r= .panicked [{v:=refV x,recovered:=false}]:=by unfold askA;rw[h,if_neg hx]
def dkN(w:List UInt8):Nat×Nat:=
 if w=kNew then(1,3) else if w=A0u then(2,5) else if w=kCut then(2,4) else if w=A0V then(10,3) else if w=A0Q then(3,2) else if w=A0J then(4,2) else if w=A0E then(5,2)
 else if w=A0o then(6,3) else if w=A0j then(7,3) else if w=A0y then(8,2) else if w=A0w then(9,2) else(0,0)
def dkS(w:List UInt8)(r:List (List UInt8)):Bool:=
 decide (r.length+1=(dkN w).2)&&(if(dkN w).1=6∨(dkN w).1=7 then dig3 (r.getD 1 []) else if(dkN w).1=2 then dig3 (r.getD 1 [])&&dig3 (r.getD 2 []) else true)
def dkEd(w:List UInt8)(r:List (List UInt8)):Ed:=⟨(numV (r.getD 1 []):Int),(numV (r.getD 2 []):Int),if w=A0u then r.getD 3 [] else []⟩
def dkD(w:List UInt8)(r:List (List UInt8))(A:Option Addr):Dd:=
 {kind:=((dkN w).1:Int),num:=if(dkN w).1=6∨(dkN w).1=7 then(numV (r.getD 1 []):Int) else 0,name:=S (r.getD 0 []),text:=if(dkN w).1=1∨(dkN w).1=10 then S (r.getD 1 []) else⟨#[]⟩,
  A:=if(dkN w).1=2 then A else none,m:=if(dkN w).1=2 then 1 else 0,c:=if(dkN w).1=2 then 1 else 0,l:=if(dkN w).1=2 then [dkEd w r] else []}
theorem hs_any(P:List Ps)(w:List UInt8)(r:List (List UInt8))(A:Option Addr):hsE P (dkD w r A)=hsE P (dkD w r none)∧hsT P (dkD w r A)=hsT P (dkD w r none)∧hsP P (dkD w r A)=hsP P (dkD w r none):=⟨rfl,rfl,rfl⟩
noncomputable def dkT(P:List Ps):List (List UInt8)→List UInt8
 |[]=>errB 12
 |w::r=>if w=A0O∧r=[] then 58::Lib.join (hsN P) [32]
  else if(dkN w).1=0 then(if askE w r=0 then askT w r else errB (askE w r))
  else if dkS w r=false then errB 12
  else if hsE P (dkD w r none)=0 then(if(dkN w).1=8 then 58::L (hsT P (dkD w r none)) else [111,107]) else errB (hsE P (dkD w r none))
def dkP(P:List Ps):List (List UInt8)→List Ps
 |[]=>P
 |w::r=>if w=A0O∧r=[] then P else if(dkN w).1=0 then P else if dkS w r=false then P else hsP P (dkD w r none)
theorem B6e{P:List Ps}(h:HsOk P)(l:List (List UInt8)):HsOk (dkP P l):=by
 exact C0g
noncomputable def A1r(P:List Ps):List (List UInt8)→List (List UInt8)
 |[]=> []
 |x::r=>if x=[] then A1r P r else dkT P (wds x)::A1r (dkP P (wds x)) r
theorem B4x(p:List (List UInt8))(A:Option Addr)(n c B:Nat)(w:World)(hr:Rd w B 1 A n (strCells p))(hB:B≤w.heap.size)(hnc:n≤c)(hn:n≤140737488355328)(hl:(Lib.join p [32]).length≤140737488355328):
 Calls Tryz.prog 95 #[.slice A n c,.string ⟨#[32]⟩] w fun e w'=>e= .returned (.string (S (Lib.join p [32])))∧Below w.heap.size w w':=by
 have hpn:p.length=n:=by have:=hr.1;simpa[strCells] using this
 rcases BP n with h0|h0
 ·subst h0
  obtain rfl:p=[]:=AU hpn
  refine(Tryz.strings_Join_none A c ⟨#[32]⟩ w).mono ?_
  rintro e w' ⟨rfl,rfl⟩
  exact⟨rfl,AI _ _⟩
 ·obtain⟨b,o,rfl,hb,hc⟩:=hr.spot h0
  subst hpn
  have e1:(p.map S).map (fun x:ByteArray=>x.data.toList)=p:=by
   rw[CE]
   conv=>rhs;rw[←List.map_id p]
   rfl
  have e0:(⟨#[32]⟩:ByteArray).data.toList=[32]:=rfl
  have key:=Tryz.strings_Join b o c (p.map S) ⟨#[32]⟩ w (fun j x hx=>hc j _ (by
   rw[strCells,BT]
   rw[BT] at hx
   cases hp:p[j]? with
   |none=>rw[hp] at hx;cases hx
   |some y=>rw[hp] at hx;cases hx;rfl)) EE (by rw[AW];exact hn) (by rw[AW];exact hnc) (by rw[e1,e0];exact hl)
  rw[AW,e1,e0] at key
  exact key
theorem A8e:∀p:List (List UInt8),(Lib.join p [32]).length≤p.flatten.length+p.length
 |[]=>by simp[Lib.join]
 |[x]=>by simp[Lib.join,List.intercalate]
 |x::y::r=>by
  have:=A8e (y::r)
  simp only[Lib.join,List.intercalate] at this⊢
  rw[List.intersperse_cons_cons,BD,BD,BD,AJ,AJ,AJ]
  simp at this⊢
  omega
end Go.Proofs.YtplgghjdidmcfaaGreatDoor
namespace Go.Proofs.YtplgghjdidmcfaaGreatDoor
open Go.RowKit Go.Sort Go.Proofs
theorem B3N(s:ByteArray){i:Nat}(hi:i≤s.size):((s++s).extract i (i+s.size)).data.toList=rotT (L s) i:=by
 have h:=A0x (s++s) i (i+s.size)
 have e:L (s++s)=L s++L s:=A3U s s
 have h2:L ((s++s).extract i (i+s.size))=rotT (L s) i:=by
  rw[h,e,Cv (by rw[A0e];exact hi),show i+s.size-i=s.size by omega,Co,AZ,A0e]
  unfold rotT
  rw[AX (by rw[AZ,A0e];omega),show s.size-(s.size-i)=i by omega]
 exact h2
def cmpT(s:List UInt8)(x y:Nat):Int:=if Lib.compareBytes (rotT s x) (rotT s y)≠0 then Lib.compareBytes (rotT s x) (rotT s y) else(x:Int)-(y:Int)
theorem B3b(s:ByteArray)(B2 B i k:Nat)(hs:s.size≤200)(hi:i≤s.size)(hk:k≤s.size)(W:World)(hc2:W.cell? ⟨B2,0,none⟩=some (.string (s++s)))(hc:W.cell? ⟨B,0,none⟩=some (.string s)):
 Calls Tryz.prog 191 #[.int .i64 (i:Int),.int .i64 (k:Int),.pointer (some ⟨B2,0,none⟩),.pointer (some ⟨B,0,none⟩)] W fun e w'=>e= .returned (.int .i64 (cmpT (L s) i k))∧∃q,w'=W.drewN q:=by
 have hz2:(s++s).size=s.size+s.size:=Bn
 have HX:=AA (B3N s hi)
 have HY:=AA (B3N s hk)
 have HC:=fun w=>AA (Tryz.strings_Compare ((s++s).extract i (i+s.size)) ((s++s).extract k (k+s.size)) w)
 rw[HX.out,HY.out] at HC
 obtain⟨T,hT⟩:∃T,s++s=T:=⟨_,rfl⟩
 rw[hT] at hc2 hz2 HC
 have hz:i+s.size≤T.size:=EE
 have hz':k+s.size≤T.size:=EE
 have hTz:T.size≤400:=EE
 clear hT hz2 HX HY
 have HV:Hid (cmpT (L s) i k=if Lib.compareBytes (rotT (L s) i) (rotT (L s) k)≠0 then Lib.compareBytes (rotT (L s) i) (rotT (L s) k) else(i:Int)-(k:Int)):=rfl
 generalize Lib.compareBytes (rotT (L s) i) (rotT (L s) k)=z at*
 by_cases h0:z=0
 ·have hv:cmpT (L s) i k=(i:Int)-(k:Int):=by rw[HV.out,if_neg (by simp[h0])]
  have HV2:=AA hv
  subst h0
  clear HV hv
  exact C1v
 ·have hv:cmpT (L s) i k=z:=by rw[HV.out,if_pos h0]
  have HV2:=AA hv
  have g1:(z !=(0:Int))=true:=by rw[Be];exact h0
  have g2:(z==(0:Int))=false:=by rw[AH];exact h0
  clear HV hv h0
  exact C1v
open Go.RowKit Go.Sort Go.Proofs
def idxT(n k:Nat):List Int:=(List.range n).map fun j=>if j<k then(j:Int) else 0
theorem B6f(n:Nat):idxT n 0=List.replicate n 0:=by
 apply CO
 ·simp[idxT]
 ·intro j h1 h2;simp[idxT]
theorem B8g(n k:Nat):(idxT n k).set k (k:Int)=idxT n (k+1):=by
 apply CO
 ·simp[idxT]
 ·intro j h1 h2
  rw[Do]
  simp only[idxT,Bf,List.getElem_range]
  by_cases e:k=j
  ·subst e;rw[if_pos rfl,if_pos EE]
  ·rw[if_neg e]
   by_cases h3:j<k
   ·rw[if_pos h3,if_pos EE]
   ·rw[if_neg h3,if_neg EE]
def A7D(s:List UInt8):List Int:=(A0R s).map fun(k:Nat)=>(k:Int)
theorem B8h(s:List UInt8){k:Nat}(h:k<s.length):(A7D s).getD k 0=((A0R s).getD k 0:Nat):=by
 unfold A7D
 rw[AK,BT,AK,AL (by rw[A1H];exact h)];rfl
section
variable (s:List UInt8) (n:Nat)
def finT:List (Fin (n+1)):=(List.range n).map (Fin.ofNat (n+1))
def encT(x:Fin (n+1)):Value:= .int .i64 (x.val:Int)
def cfT(x y:Fin (n+1)):Int:=cmpT s x.val y.val
theorem A4w:∀a b:List UInt8,(Lib.compareBytes a b<0↔a<b)∧(Lib.compareBytes a b=0↔a=b)
 |[],[]=>by simp[Lib.compareBytes]
 |[],_::_=>by simp[Lib.compareBytes]
 |_::_,[]=>by simp[Lib.compareBytes]
 |x::a,y::b=>by
  unfold Lib.compareBytes
  by_cases h1:x<y
  ·have h3:x≠y:=fun e=>by subst e;exact UInt8.lt_irrefl _ h1
   simp[h1,h3,Bb]
  ·by_cases h2:y<x
   ·have h3:x≠y:=fun e=>by subst e;exact h1 h2
    simp[h1,h2,h3,Bb]
   ·have h3:x=y:=UInt8.le_antisymm (UInt8.not_lt.1 h2) (UInt8.not_lt.1 h1)
    subst h3
    simp only[h1,CD,Bb,false_or,true_and,List.cons.injEq]
    exact A4w a b
theorem A6h(x y:Fin (n+1)):ltOf (cfT s n) x y=decide (ltT s x.val y.val):=by
 show decide (cmpT s x.val y.val<0)=_
 obtain⟨h1,h2⟩:=A4w (rotT s x.val) (rotT s y.val)
 rw[BR,As,As]
 unfold cmpT ltT
 by_cases h0:Lib.compareBytes (rotT s x.val) (rotT s y.val)=0
 ·have e:=h2.1 h0
  rw[if_neg (by simp[h0])]
  constructor
  ·intro h;exact .inr ⟨e,by omega⟩
  ·rintro(h|⟨_,h⟩)
   ·rw[e] at h;exact absurd h (Cz _)
   ·omega
 ·rw[if_pos h0,h1]
  constructor
  ·exact .inl
  ·rintro(h|⟨e,_⟩)
   ·exact h
   ·exact absurd (h2.2 e) h0
theorem swoT:SWO (ltOf (cfT s n)) where
 irrefl x:=by rw[A6h];exact AC (A8M _ _)
 trans x y z h1 h2:=by
  rw[A6h,As] at*
  exact A5H h1 h2
 ntrans x y z h1 h2:=by
  rw[A6h,Bg] at*
  intro h3
  by_cases h4:ltT s y.val z.val
  ·exact h2 h4
  ·by_cases h5:ltT s z.val y.val
   ·exact h1 (A5H h3 h5)
   ·have:=A9F h4 h5
    rw[this] at h1
    exact h1 h3
theorem totT(x y:Fin (n+1))(h1:ltOf (cfT s n) x y=false)(h2:ltOf (cfT s n) y x=false):x=y:=by
 rw[A6h,Bg] at*
 exact Fin.ext (A9F h1 h2)
theorem A8f:(finT n).length=n:=by simp[finT]
theorem B2f:(finT n).map (fun x=>x.val)=List.range n:=by
 unfold finT
 rw[CE]
 conv=>rhs;rw[←List.map_id (List.range n)]
 apply List.map_congr_left
 intro i hi
 rw[Bc] at hi
 show i%(n+1)=i
 exact Bk (by omega)
theorem B8i:(finT n).map (encT n)=ints (idxT n n):=by
 have h:=congrArg (List.map fun(k:Nat)=>Value.int .i64 (k:Int)) (B2f n)
 rw[CE] at h
 have e:ints (idxT n n)=(List.range n).map fun(k:Nat)=>Value.int .i64 (k:Int):=by
  unfold ints idxT
  rw[CE]
  apply List.map_congr_left
  intro i hi
  rw[Bc] at hi
  show Value.int .i64 (if i<n then(i:Int) else 0)=_
  rw[if_pos hi]
 rw[e,←h];rfl
theorem B6g(hn:n=s.length):((finT n).mergeSort fun x y=> !(ltOf (cfT s n)) y x).map (encT n)=ints (A7D s):=by
 have h1:((finT n).mergeSort fun x y=> !(ltOf (cfT s n)) y x).map (fun x=>x.val)=A0R s:=by
  rw[List.map_mergeSort (s:=fun x y=>decide (¬ltT s y x)),B2f,hn]
  ·rfl
  ·intro a _ b _
   rw[A6h,BR]
   simp
 have h:=congrArg (List.map fun(k:Nat)=>Value.int .i64 (k:Int)) h1
 rw[CE] at h
 have e:ints (A7D s)=(A0R s).map fun(k:Nat)=>Value.int .i64 (k:Int):=by
  unfold ints A7D;rw[CE];rfl
 rw[e,←h];rfl
end
theorem A7U(w:World)(os:Array Obj):Below w.heap.size w (Go.Sort.grow w os):=
 ⟨rfl,rfl,rfl,by simp,fun k hk=>heap_grow_old _ _ hk⟩
theorem B2g(s:ByteArray)(hs:s.size≤200)(w0 w:World)(B2 B g:Nat)(hB2:B2<w.heap.size)(hg2:B2≠g)(hB:B<w0.heap.size)(hc2:w.cell? ⟨B2,0,none⟩=some (.string (s++s)))(hc:w.cell? ⟨B,0,none⟩=some (.string s))(hrow:ArrI w w0.heap.size g s.size (idxT s.size s.size))(hb:Below w0.heap.size w0 w):
 Calls Tryz.prog 190 #[.slice (some ⟨g,0,none⟩) s.size s.size,.func (.func 191) #[] #[.pointer (some ⟨B2,0,none⟩),.pointer (some ⟨B,0,none⟩)]] w fun e w'=>e= .returned (.tuple #[])∧ArrI w' w0.heap.size g s.size (A7D (L s))∧w'.cell? ⟨B2,0,none⟩=some (.string (s++s))∧Below w0.heap.size w0 w':=by
 have hg:=hrow.lt
 have hrow':w.ownsRow w0.heap.size 3 1 (.slice (some ⟨g,0,none⟩) s.size s.size) s.size ((finT s.size).map (encT s.size)):=by rw[B8i];exact hrow
 obtain⟨g',cap',hv,_,_,_,_,_,hH⟩:=Lib.holds_of_ownsRow hrow' (by intro h;cases h)
 obtain rfl:g=g':=by cases hv;rfl
 have hcell2:∀m os dk,(sortWorld (encT s.size) w g 0 m dk os).cell? ⟨B2,0,none⟩=some (.string (s++s)):=fun m os dk=>by
  unfold sortWorld
  rw[cell?_grow _ _ _ (by simp;exact hB2),cell?_putRow_other _ _ _ _ _ _ (.inl (show B2≠g from hg2))]
  exact hc2
 have hcmp:CmpLays1 Tryz.prog 191 #[.pointer (some ⟨B2,0,none⟩),.pointer (some ⟨B,0,none⟩)] (encT s.size) (cfT (L s) s.size) g 0 (finT s.size).toArray.size w:=by
  intro m os dk hdk x y
  refine(B3b s B2 B x.val y.val hs (by have:=x.isLt;omega) (by have:=y.isLt;omega) _ (hcell2 _ _ _) ?_).mono ?_
  ·unfold sortWorld
   rw[cell?_grow _ _ _ (by simp;have:=hb.size;omega),cell?_putRow_other _ _ _ _ _ _ (.inl (show B≠g by omega))]
   exact hc
  ·rintro e w' ⟨rfl,q,rfl⟩
   exact⟨rfl,q,#[],(grow_empty _).symm⟩
 have h:=Any.slices_SortFunc_total Tryz.laysSF45 (encT s.size) (fun _=>rfl) (cfT (L s) s.size) (swoT _ _) 191 #[.pointer (some ⟨B2,0,none⟩),.pointer (some ⟨B,0,none⟩)] g 0 s.size (finT s.size).toArray w (enters_of Tryz.func191 EG rfl) hcmp hH hg.2 (by simp[A8f];omega) (totT _ _)
 rw[Cx,A8f] at h
 refine h.mono ?_
 rintro e w' ⟨rfl,q,os,rfl⟩
 have hl:((finT s.size).mergeSort fun x y=> !(ltOf (cfT (L s) s.size)) y x).length=s.size:=by rw[List.length_mergeSort,A8f]
 have h1:=Lib.ownsRow_putRow (q:=q) hrow' hl (AD _)
 rw[AX (by rw[hl];exact AD _),B6g _ _ (A0e s).symm] at h1
 have hb1:=Lib.below_putRow (enc:=encT s.size) (q:=q) (d:=((finT s.size).mergeSort fun x y=> !(ltOf (cfT (L s) s.size)) y x).toArray) hb hg.1
 refine⟨rfl,A1l h1 (A7U _ _),hcell2 _ _ _, ?_⟩
 exact hb1.trans ((A7U _ _).mono hb1.size)
theorem B4y(w:World)(e:TypeId):(w.alloc (.cells #[] e)).ownsRow w.heap.size e 1 (.slice (some ⟨w.heap.size,0,none⟩) 0 0) 0 []:=
 ⟨rfl,.inr ⟨w.heap.size,0,#[],rfl,AD _,DU w _,AD _,AS _,rfl,rfl⟩⟩
theorem B4z{s:ByteArray}{i:Nat}(hi:i<s.size):(L (s++s)).getD (i+s.size-1) 0=A4D (L s) i:=by
 have e:L (s++s)=L s++L s:=A3U s s
 unfold A4D
 rw[e,A0e,AK,AK]
 congr 1
 rcases BP i with h|h
 ·subst h
  rw[An,Bk EE,Bi (by rw[A0e];omega)]
 ·rw[BH (by rw[A0e];omega),A0e,show i+s.size-1=i-1+s.size by omega,Nat.add_mod_right,Bk EE]
  congr 1;omega
def AtIs(o:List Nat)(k a:Nat):Prop:=(∀j,j<k→o.getD j 0=0→a=j)∧((∀j,j<k→o.getD j 0≠0)→a=0)
theorem B8j{s:List UInt8}{a:Nat}(h:AtIs (A0R s) s.length a):a=A1g s:=by
 unfold A1g
 by_cases h0:s=[]
 ·rw[if_pos h0]
  exact h.2 fun j hj=>by rw[h0] at hj;exact absurd hj (DN _)
 ·rw[if_neg h0]
  have hm:0∈A0R s:=(A2H s).mem_iff.2 (Bc.2 (BO.2 h0))
  have hl:=DC hm
  refine h.1 _ (by rw[A1H] at hl;exact hl) ?_
  rw[AK,AL hl,List.getElem_idxOf];rfl
theorem B6h{s:List UInt8}{i j:Nat}(hi:i<s.length)(hj:j<s.length)(h:(A0R s).getD i 0=(A0R s).getD j 0):i=j:=by
 have hn:(A0R s).Nodup:=(A2H s).nodup_iff.2 List.nodup_range
 rw[AK,AK,AL (by rw[A1H];exact hi),AL (by rw[A1H];exact hj)] at h
 exact(List.getElem_inj hn).1 h
theorem B8k{s:List UInt8}{k a:Nat}(hk:k<s.length)(h0:(A0R s).getD k 0=0)(_h:AtIs (A0R s) k a):AtIs (A0R s) (k+1) k:=by
 refine⟨fun j hj hz=> ?_,fun hn=>absurd h0 (hn k (Nat.lt_succ_self k))⟩
 exact(B6h EE hk (hz.trans h0.symm)).symm
theorem B6i{o:List Nat}{k a:Nat}(h0:o.getD k 0≠0)(h:AtIs o k a):AtIs o (k+1) a:=by
 refine⟨fun j hj hz=> ?_,fun hn=>h.2 fun j hj=>hn j EE⟩
 rcases CT j k with h1|h1
 ·exact h.1 j h1 hz
 ·obtain rfl:j=k:=EE
  exact absurd hz h0
theorem A8O{s:List UInt8}{k:Nat}(hk:k<s.length):(A1p s).take (k+1)=(A1p s).take k++ [A4D s ((A0R s).getD k 0)]:=by
 rw[Cf,AL (by rw[A3Z];exact hk)]
 congr 1
 unfold A1p
 rw[Bf,AK,AL (by rw[A1H];exact hk)];rfl
open Go.RowKit Go.Sort Go.Proofs
theorem B8Y:(Tryz.prog.info? 5).map (fun i=>(i.zero,i.size,i.bytes))=some (some (.int .u8 0),1,1):=by kernel_rfl
theorem B3c(s:ByteArray)(hs:s.size≤200)(w:World):
 Calls Tryz.prog 152 #[.string s] w fun e w'=>e= .returned (.tuple #[.string (S (A1p (L s))),.int .i64 (A1g (L s):Nat),.int .i64 0])∧Below w.heap.size w w':=by
 obtain⟨i0,hi0,hz0,hz1,hz2⟩:=info_parts A1E
 obtain⟨j0,hj0,hy0,hy1,hy2⟩:=info_parts B8Y
 have HE:Hid (A0W s.size=0):=by unfold Hid A0W;rw[if_neg EE]
 go_enter Tryz.func152,Tryz.ntmps152
 go_wp2_with fail
 refine(A1t s _).mono ?_
 rintro e w1 ⟨rfl,hb1⟩
 rw[HE.out]
 have hbox:=((Blk.new_ w 9 #[.string s]).below' hb1).cell0
 have hz0':w.heap.size<w1.heap.size:=by have:=hb1.size;simp only[Ar] at this;omega
 have hb1':Below w.heap.size w w1:=A0h ((AI _ _).alloc (AD _) _) hb1
 clear hb1
 have HBOX:=AA hbox
 go_wp2_with (at_make;go_must (refine wpList_make_full _ rfl _ _ _ rfl w1.heap.size 3 i0 _ 1 Tryz.underlying91 hi0 hz0 hz1 .i64 .i64 (s.size:Int) (s.size:Int) s.size rfl rfl EE EE (by rw[hz2];omega) (by unfold maxLen;omega) (AD _) ?_);intro w2 hown2 hg2)
 have hb2:Below w1.heap.size w1 w2:=(AI _ _).grown hg2 (AD _) (fun _ h=>by cases h)
 have hown2:ArrI w2 w1.heap.size w1.heap.size s.size (List.replicate s.size 0):=by
  rw[A4H] at hown2;exact hown2
 clear hg2 hbox
 obtain⟨g,hg⟩:∃g,w1.heap.size=g:=⟨_,rfl⟩
 have hown2:ArrI w2 w1.heap.size g s.size (idxT s.size 0):=by rw[←hg,B6f];exact hown2
 rw[hg]
 have HG:=AA hg
 clear hg
 go_loopw [23] (fun iv wr=>∃i:Nat,i≤s.size∧iv= .int .i64 (i:Int)∧ArrI wr w1.heap.size g s.size (idxT s.size i)∧Below w1.heap.size w1 wr) (fun iv _=>s.size-(intOf iv).toNat)
 case atStart=>exact⟨0,AS _,rfl,hown2,hb2⟩
 case round=>
  clear hown2 hb2
  obtain⟨i,hi,rfl,hrow,hb⟩:=hrel
  have hgl:=hrow.lt
  by_cases hlt:i<s.size
  ·have g1:decide ((i:Int)<(s.size:Int))=true:=AG EE
   have g1':decide (i<s.size)=true:=AG hlt
   have c0:=hrow.at_ (k:=i) hlt
   have f0:=hrow.free i
   have hln:=hrow.len
   have HN:Hid ((idxT s.size i).set i (i:Int)=idxT s.size (i+1)):=B8g _ _
   have HROW:=AA hrow
   clear hrow
   generalize(idxT s.size i).getD i 0=u at*
   go_wp2_with fail
   refine⟨⟨i+1,by omega,by go_num, ?_,hb.setCell (p:=⟨g,i,none⟩) hgl.1 _⟩,by simp[intOf];omega⟩
   rw[←HN.out]
   exact HROW.out.set_ i _
  ·obtain rfl:i=s.size:=EE
   have g1:decide ((s.size:Int)<(s.size:Int))=false:=AC EE
   have g1':decide (s.size<s.size)=false:=AC hlt
   have hbx:=(hb.cell (p:=⟨w.heap.size,0,none⟩) hz0').trans HBOX.out
   have hwr:=hb.size
   obtain⟨wt,hwt⟩:∃wt,wt=wr.alloc (.cells #[.string (s++s)] 9):=⟨_,rfl⟩
   have hbt:Below wr.heap.size wr wt:=by rw[hwt];exact(AI _ _).alloc (AD _) _
   have hbx2:wt.cell? ⟨wr.heap.size,0,none⟩=some (.string (s++s)):=by rw[hwt];exact(Blk.new_ wr 9 #[.string (s++s)]).cell0
   have hl2:wr.heap.size<wt.heap.size:=by rw[hwt];simp
   have hbx1:wt.cell? ⟨w.heap.size,0,none⟩=some (.string s):=(hbt.cell (p:=⟨w.heap.size,0,none⟩) (by show w.heap.size<wr.heap.size;omega)).trans hbx
   have hrow2:ArrI wt w1.heap.size g s.size (idxT s.size s.size):=hrow.below hbt
   have hbt1:Below w1.heap.size w1 wt:=hb.trans (hbt.mono hwr)
   have HS:=AA (B2g s hs w1 wt wr.heap.size w.heap.size g hl2 EE hz0' hbx2 hbx1 hrow2 hbt1)
   have hss:(s++s).size≤400:=by rw[Bn];omega
   clear hrow hrow2 hbx2 hbx1 hbt1
   go_wp2_with fail
   rw[←hwt]
   refine HS.out.mono ?_
   rintro e w3 ⟨rfl,hrow3,hc3,hb3⟩
   have hbx3:=(hb3.cell (p:=⟨w.heap.size,0,none⟩) hz0').trans HBOX.out
   have hs3:=hb3.size
   have hl3:wr.heap.size<w3.heap.size:=World.block_lt_of_cell? _ _ hc3
   have hTz:(s++s).size=s.size+s.size:=Bn
   have HLST:Hid (∀i,i<s.size→(L (s++s)).getD (i+s.size-1) 0=A4D (L s) i):=fun i hi=>B4z hi
   clear hwt HS hl2 hbt hbx
   generalize s++s=T at*
   have hTl:s.size+s.size≤T.size:=EE
   clear hTz
   generalize wr.heap.size=gT at*
   have hof:=B4y w3 5
   have hb4:Below w3.heap.size w3 (w3.alloc (.cells #[] 5)):=(AI _ _).alloc (AD _) _
   go_wp2_with fail
   generalize(w3.alloc (.cells #[] 5))=w4 at*
   have hrg:=hrow3.lt
   have HROW:=AA hrow3
   have HC3:=AA hc3
   have HBX:=AA hbx3
   have HLL:=AA (A0e s)
   clear hrow3 hc3 hbx3
   go_loopw [9,10,40] (fun bv av kv wr=>∃(k a:Nat),k≤s.size∧kv= .int .i64 (k:Int)∧av= .int .i64 (a:Int)∧Hid (AtIs (A0R (L s)) k a)∧wr.ownsRow w3.heap.size 5 1 bv k (byteCells ((A1p (L s)).take k))∧Below w3.heap.size w3 wr) (fun _ _ kv _=>s.size-(intOf kv).toNat)
   case atStart=>exact⟨0,0,AS _,rfl,rfl,⟨fun j hj=>absurd hj (DN _),fun _=>rfl⟩,hof,hb4⟩
   case round=>
    clear hof hb4
    obtain⟨k,a,hk,rfl,rfl,HA,hown,hbr⟩:=hrel
    have hrs:=hbr.size
    by_cases hlt2:k<s.size
    ·have g2:decide ((k:Int)<(s.size:Int))=true:=AG EE
     have g2':decide (k<s.size)=true:=AG hlt2
     have hkl:k<(L s).length:=by rw[HLL.out];exact hlt2
     have c0:=(HROW.out.below hbr).at_ (k:=k) hlt2
     rw[B8h _ hkl] at c0
     have hol:=B2c hkl
     rw[HLL.out] at hol
     have HSN:=AA (A8O hkl)
     have HHIT:Hid ((A0R (L s)).getD k 0=0→AtIs (A0R (L s)) (k+1) k):=fun h=>B8k hkl h HA.out
     have HMISS:Hid ((A0R (L s)).getD k 0≠0→AtIs (A0R (L s)) (k+1) a):=fun h=>B6i h HA.out
     have hlast:=HLST.out _ hol
     have HO:=AA hown
     have cb2:=(hbr.cell (p:=⟨gT,0,none⟩) hl3).trans HC3.out
     have cb1:=(hbr.cell (p:=⟨w.heap.size,0,none⟩) (by show w.heap.size<w3.heap.size;omega)).trans HBX.out
     clear HA hown
     generalize(A0R (L s)).getD k 0=o at*
     have e0:((o:Int)+(s.size:Int)-1)=((o+s.size-1:Nat):Int):=EE
     have hix:=fun w=>A3H (P:=Tryz.prog) Tryz.underlying9 T (o+s.size-1) EE w
     rw[hlast,←e0] at hix
     clear hlast e0
     generalize A4D (L s) o=y at*
     have happ:byteCells ((A1p (L s)).take k)++ [.int .u8 (y.toNat:Int)]=byteCells ((A1p (L s)).take (k+1)):=by
      rw[HSN.out];simp[byteCells]
     have HAPP:=AA happ
     clear happ HSN
     by_cases ho:o=0
     ·have HN:=AA (HHIT.out ho)
      have g3:((o:Int)==0)=true:=by rw[At];omega
      clear HHIT HMISS ho
      go_wp2_with (at_builtin;go_must (refine A0r rfl _ _ _ rfl w3.heap.size 5 j0 _ 1 1 Tryz.underlying119 hj0 hy0 hy1 hy2 rfl EE _ k (byteCells ((A1p (L s)).take k)) rfl (BE HO.out _) ⟨_,0,none⟩ 1 1 [.int .u8 (y.toNat:Int)] rfl rfl (BL _ _ _) (by simp[Value.oneCell']) EE EE (by simp;omega) ?_);intro v6 w6 hown6 hg6 hb6)
      have hB6:Below w3.heap.size w3 w6:=(hbr.alloc hrs _).trans hb6
      go_roundw
      case rel=>exact⟨k+1,k,by omega,by go_num,by go_num,HN,by rw[←HAPP.out];exact hown6,hB6⟩
      case measure=>simp[intOf];omega
     ·have HN:=AA (HMISS.out ho)
      have g3:((o:Int)==0)=false:=by rw[AH];omega
      clear HHIT HMISS ho
      go_wp2_with (at_builtin;go_must (refine A0r rfl _ _ _ rfl w3.heap.size 5 j0 _ 1 1 Tryz.underlying119 hj0 hy0 hy1 hy2 rfl EE _ k (byteCells ((A1p (L s)).take k)) rfl (BE HO.out _) ⟨_,0,none⟩ 1 1 [.int .u8 (y.toNat:Int)] rfl rfl (BL _ _ _) (by simp[Value.oneCell']) EE EE (by simp;omega) ?_);intro v6 w6 hown6 hg6 hb6)
      have hB6:Below w3.heap.size w3 w6:=(hbr.alloc hrs _).trans hb6
      go_roundw
      case rel=>exact⟨k+1,a,by omega,by go_num,by go_num,HN,by rw[←HAPP.out];exact hown6,hB6⟩
      case measure=>simp[intOf];omega
    ·have hke:Hid (k=s.size):=by unfold Hid;omega
     have g2:decide ((k:Int)<(s.size:Int))=false:=AC EE
     have g2':decide (k<s.size)=false:=AC hlt2
     have HAT:Hid (a=A1g (L s)):=B8j (by rw[HLL.out,←hke.out];exact HA.out)
     have HTK:Hid ((A1p (L s)).take k=A1p (L s)):=AX (by rw[A3Z,HLL.out,hke.out];exact AD _)
     rw[HTK.out] at hown
     obtain⟨A,c,rfl,hnc,hcm,hrx⟩:=A1e hown
     have hcv:=A3V (P:=Tryz.prog) wr (src:=119) (dst:=9) Tryz.underlying119 Tryz.underlying5 Tryz.underlying9 (c:=c) hrx
     clear hown hrx HA
     go_wp2_with fail
     (apply bodyPost_ret;(simp[results,Tryz.results152,go_sem];rfl);rfl)
     rw[HAT.out]
     exact⟨rfl,A0h hb1' (hb3.trans (hbr.mono hs3))⟩
end Go.Proofs.YtplgghjdidmcfaaGreatDoor
namespace Go.Proofs.YtplgghjdidmcfaaGreatDoor
open Go.RowKit
theorem B0T(s:ByteArray)(hs:200<s.size)(w:World):
 Calls Tryz.prog 152 #[.string s] w fun e w'=>e= .returned (.tuple #[.string ⟨#[]⟩,.int .i64 0,.int .i64 2])∧Below w.heap.size w w':=by
 have HE:Hid (A0W s.size=2):=by unfold Hid A0W;rw[if_pos hs]
 go_enter Tryz.func152,Tryz.ntmps152
 go_wp2_with fail
 refine(A1t s _).mono ?_
 rintro e w1 ⟨rfl,hb1⟩
 rw[HE.out]
 have hb1':Below w.heap.size w w1:=A0h ((AI _ _).alloc (AD _) _) hb1
 go_wp2_with fail
 (apply bodyPost_ret;(simp[results,Tryz.results152,go_sem];rfl);rfl)
 exact⟨rfl,hb1'⟩
theorem eqk(a b:List UInt8):((S a).toList==b)=decide (a=b):=by
 rw[Ap]
 exact BR.2 (by rw[At,As];exact Iff.rfl)
theorem A5J{w:World}{B n:Nat}{A:Option Addr}{W:List (List UInt8)}(h:Rd w B 1 A n (strCells W))(hn:0<n):W.length=n∧∃b o,A=some ⟨b,o,none⟩∧b<B∧∀j (_:j<W.length),w.cell? ⟨b,o+j,none⟩=some (.string (S (W.getD j []))):=by
 have hl:W.length=n:=by have:=h.1;simpa[strCells] using this
 obtain⟨b,o,rfl,hb,hc⟩:=h.spot hn
 refine⟨hl,b,o,rfl,hb,fun j hj=>hc j _ ?_⟩
 rw[strCells,BT,AL hj,AK,AL hj];rfl
theorem B6j(A:Option Addr)(n c:Nat)(w:World)(hn:n<2):
 Calls Tryz.prog 97 #[.slice A n c] w fun e w'=>e= .panicked [{v:=refV 12,recovered:=false}]∧Below w.heap.size w w':=by
 have HMU:=AA (fun W=>A1f 12 EF W)
 have g1:decide ((n:Int)<2)=true:=AG EE
 have g1':decide (n<2)=true:=AG EE
 go_enter Tryz.func97,Tryz.ntmps97
 exact B9O
theorem A7k{x:List UInt8}(h:x.length≤200):A1q [x]=0:=by unfold A1q;simp;omega
theorem A6w{x:List UInt8}(h:¬x.length≤200):A1q [x]=2:=by unfold A1q;simp;omega
theorem B0p{x y:List UInt8}(h:x.length≤200∧y.length≤200):A1q [x,y]=0:=by unfold A1q;simp;omega
theorem A8P{x y:List UInt8}(h:¬(x.length≤200∧y.length≤200)):A1q [x,y]=2:=by unfold A1q;simp;omega
theorem B6k(x:List UInt8)(b o c B:Nat)(w:World)(hb:b<B)(hB:B≤w.heap.size)(c0:w.cell? ⟨b,o,none⟩=some (.string (S kPer)))(c1:w.cell? ⟨b,o+1,none⟩=some (.string (S x)))(ht:TabI w):
 Calls Tryz.prog 97 #[.slice (some ⟨b,o,none⟩) 2 c] w fun e w'=>e=askA kPer [x]∧Below w.heap.size w w':=by
 have hbw:b<w.heap.size:=EE
 have q1:((S kPer).toList==[112,101,114,105,111,100,115])=true:=by rw[eqk];decide
 have q2:((S kPer).toList==[102,105,110,100])=false:=by rw[eqk];decide
 have q3:((S kPer).toList==[115,112,108,105,116])=false:=by rw[eqk];decide
 have q4:((S kPer).toList==[116,117,114,110])=false:=by rw[eqk];decide
 have q5:((S kPer).toList==[102,97,114])=false:=by rw[eqk];decide
 have HK:Hid (askK kPer [x].length=1):=by unfold Hid;exact(by decide:askK kPer 1=1)
 generalize S kPer=X0 at*
 have HSX:Hid (L (S x)=x∧(S x).size=x.length):=⟨L_S x,A0b x⟩
 by_cases hl:x.length≤200
 ·have HE:Hid (askE kPer [x]=0):=by unfold Hid askE;rw[HK.out,if_neg EF];exact A7k hl
  rw[A5k HE.out]
  have HT:=HK.out
  clear HE
  have HT:Hid (askT kPer [x]=rowS (pI x (x.length+1))):=by unfold Hid askT;simp only;rw[HK.out];rfl
  rw[HT.out]
  have HP:=AA (fun W=>A8K (S x) (by rw[HSX.out.2];exact hl) W)
  rw[HSX.out.1,HSX.out.2] at HP
  have HPL:Hid ((pI x (x.length+1)).length≤201∧∀z∈pI x (x.length+1),-9223372036854775808≤z∧z≤9223372036854775807):=by
   exact B9T
  clear HT HK HSX hl
  generalize S x=X1 at*
  generalize pI x (x.length+1)=l at*
  go_enter Tryz.func97,Tryz.ntmps97
  go_wp2_with fail
  refine(HP.out _).mono ?_
  rintro e w1 ⟨v,rfl,ho,hb1⟩
  obtain⟨A1,n1,rfl,hnc,_,hrd⟩:=A1e ho
  clear ho
  exact C2G
 ·have HE:Hid (askE kPer [x]=2):=by unfold Hid askE;rw[HK.out,if_neg EF];exact A6w hl
  rw[A3X HE.out EF]
  have HMU:=AA (fun W=>A1f 2 EF W)
  clear HE HK
  have HP:=AA (fun W=>A7J (S x) (by rw[HSX.out.2];omega) W)
  exact C1c
theorem B4A(x y:List UInt8)(hy:0<y.length)(b o c B:Nat)(w:World)(hb:b<B)(hB:B≤w.heap.size)(c0:w.cell? ⟨b,o,none⟩=some (.string (S A0G)))(c1:w.cell? ⟨b,o+1,none⟩=some (.string (S x)))(c2:w.cell? ⟨b,o+2,none⟩=some (.string (S y)))(ht:TabI w):
 Calls Tryz.prog 97 #[.slice (some ⟨b,o,none⟩) 3 c] w fun e w'=>e=askA A0G [x,y]∧Below w.heap.size w w':=by
 have hbw:b<w.heap.size:=EE
 have q1:((S A0G).toList==[112,101,114,105,111,100,115])=false:=by rw[eqk];decide
 have q2:((S A0G).toList==[102,105,110,100])=true:=by rw[eqk];decide
 have q3:((S A0G).toList==[115,112,108,105,116])=false:=by rw[eqk];decide
 have q4:((S A0G).toList==[116,117,114,110])=false:=by rw[eqk];decide
 have q5:((S A0G).toList==[102,97,114])=false:=by rw[eqk];decide
 have HK:Hid (askK A0G [x,y].length=2):=by unfold Hid;exact(by decide:askK A0G 2=2)
 generalize S A0G=X0 at*
 have HSX:Hid (L (S x)=x∧(S x).size=x.length):=⟨L_S x,A0b x⟩
 have HSY:Hid (L (S y)=y∧(S y).size=y.length):=⟨L_S y,A0b y⟩
 by_cases hl:x.length≤200∧y.length≤200
 ·have HE:Hid (askE A0G [x,y]=0):=by unfold Hid askE;rw[HK.out,if_neg EF];exact B0p hl
  rw[A5k HE.out]
  have HT:=HK.out
  clear HE
  have HT:Hid (askT A0G [x,y]=rowS (A1m x y (x.length+1-y.length))):=by unfold Hid askT;simp only;rw[HK.out];rfl
  rw[HT.out]
  have HP:=AA (fun W=>B2a (S x) (S y) (by rw[HSX.out.2];exact hl.1) (by rw[HSY.out.2];exact hl.2) (by rw[HSY.out.2];exact hy) W)
  rw[HSX.out.1,HSX.out.2,HSY.out.1,HSY.out.2] at HP
  have HPL:Hid ((A1m x y (x.length+1-y.length)).length≤201∧∀z∈A1m x y (x.length+1-y.length),-9223372036854775808≤z∧z≤9223372036854775807):=by
   exact B9U
  clear HT HK HSX HSY hl hy
  generalize S x=X1 at*
  generalize S y=X2 at*
  generalize A1m x y (x.length+1-y.length)=l at*
  go_enter Tryz.func97,Tryz.ntmps97
  go_wp2_with fail
  obtain⟨F1,HF1,hcell10,hcell11⟩:=cells2 ⟨b,o+1,none⟩ (.string X1) ⟨b,o+2,none⟩ (.string X2)
  refine EB [(0,true),(1,true),(2,true),(3,true),(4,true),(5,true),(6,false),(7,true),(8,true),(9,true),(10,true),(11,true)] HF1 ?_
  intro hne1
  simp only[A0i,AT,AP,AR]
  repeat(first|((first|refine Dt ?_|refine Du ?_);intro K hK;go_big_quiet_op;go_big_quiet_on)|((first|refine Dv ?_|refine Dw ?_);simp only[Act.put,AB,AE,AF]))
  refine A0a ?_
  go_wp2_with fail
  refine(HP.out _).mono ?_
  rintro e w1 ⟨v,rfl,ho,hb1⟩
  obtain⟨A1,n1,rfl,hnc,_,hrd⟩:=A1e ho
  clear ho
  have hb1:Below w.heap.size w w1:=(Bl (AI _ _)).trans hb1
  have c1':=(hb1.cell (p:=⟨b,o+1,none⟩) hbw).trans c1
  have c2':=(hb1.cell (p:=⟨b,o+2,none⟩) hbw).trans c2
  go_wp2_with fail
  refine ED HF1 ?_ ⟨c1',c2'⟩
  repeat(first|((first|refine Dt ?_|refine Du ?_);intro K hK;go_big_quiet_op;go_big_quiet_on)|((first|refine Dv ?_|refine Dw ?_);simp only[Act.put,AB,AE,AF]))
  refine A0g ?_
  clear HF1 c1' c2'
  exact C2G
 ·have HE:Hid (askE A0G [x,y]=2):=by unfold Hid askE;rw[HK.out,if_neg EF];exact A8P hl
  rw[A3X HE.out EF]
  have HMU:=AA (fun W=>A1f 2 EF W)
  clear HE HK
  have hse:A1Q (S x) (S y)=2:=by
   unfold A1Q
   rw[HSX.out.2,HSY.out.2]
   rcases A3R x.length with⟨h1,h2⟩|⟨h1,h2⟩
   ·rw[h2,if_neg EF]
   ·rcases A3R y.length with⟨h3,h4⟩|⟨h3,h4⟩
    ·rw[h2,h4,if_pos rfl,if_neg EF]
    ·exact absurd ⟨h1,h3⟩ hl
  have HP:=AA (fun W=>B1Z (S x) (S y) (by rw[hse];decide) W)
  rw[hse] at HP
  clear hse
  exact C0L
theorem B3d(x:List UInt8)(b o c B:Nat)(w:World)(hb:b<B)(hB:B≤w.heap.size)(c0:w.cell? ⟨b,o,none⟩=some (.string (S A0v)))(c1:w.cell? ⟨b,o+1,none⟩=some (.string (S x))):
 Calls Tryz.prog 97 #[.slice (some ⟨b,o,none⟩) 2 c] w fun e w'=>e=askA A0v [x]∧Below w.heap.size w w':=by
 have hbw:b<w.heap.size:=EE
 have q1:((S A0v).toList==[112,101,114,105,111,100,115])=false:=by rw[eqk];decide
 have q2:((S A0v).toList==[102,105,110,100])=false:=by rw[eqk];decide
 have q3:((S A0v).toList==[115,112,108,105,116])=true:=by rw[eqk];decide
 have q4:((S A0v).toList==[116,117,114,110])=false:=by rw[eqk];decide
 have q5:((S A0v).toList==[102,97,114])=false:=by rw[eqk];decide
 have HK:Hid (askK A0v [x].length=3):=by unfold Hid;exact(by decide:askK A0v 1=3)
 generalize S A0v=X0 at*
 have HSX:Hid (L (S x)=x∧(S x).size=x.length):=⟨L_S x,A0b x⟩
 by_cases hl:x.length≤200
 ·have HE:Hid (askE A0v [x]=0):=by unfold Hid askE;rw[HK.out,if_neg EF];exact A7k hl
  rw[A5k HE.out]
  have HT:=HK.out
  clear HE
  have HT:Hid (askT A0v [x]=Lib.join (lynF x) [32]):=by unfold Hid askT;simp only;rw[HK.out];rfl
  rw[HT.out]
  have HP:=AA (fun W=>A6R (S x) (by rw[HSX.out.2];exact hl) W)
  rw[HSX.out.1,HSX.out.2] at HP
  have HSP:=AA (fun(a:List (List UInt8)) (h:SpAt x a x.length)=>h.one (A7z hl))
  have HJL:Hid ((lynF x).length≤200→(Lib.join (lynF x) [32]).length≤140737488355328):=by
   intro h4
   have h1:=A8e (lynF x)
   have h2:=(A7z hl).fl
   rw[BJ] at h2
   rw[h2] at h1
   omega
  have hxl:x.length≤200:=hl
  clear HT HK HSX hl
  generalize S x=X1 at*
  generalize lynF x=F at*
  go_enter Tryz.func97,Tryz.ntmps97
  go_wp2_with fail
  refine(HP.out _).mono ?_
  rintro e w1 ⟨v,out,rfl,hsp,hol,ho,hb1⟩
  obtain rfl:=HSP.out _ hsp
  obtain⟨A1,n1,rfl,hnc,_,hrd⟩:=A1e ho
  have hjl:=HJL.out EE
  clear ho hsp HSP HJL
  go_wp2_with fail
  refine(A5j _).mono ?_
  rintro e w2 ⟨rfl,rfl⟩
  go_wp2_with fail
  refine(B4x out A1 out.length n1 _ _ hrd (AD _) hnc EE hjl).mono ?_
  exact C1d
 ·have HE:Hid (askE A0v [x]=2):=by unfold Hid askE;rw[HK.out,if_neg EF];exact A6w hl
  rw[A3X HE.out EF]
  have HMU:=AA (fun W=>A1f 2 EF W)
  clear HE HK
  have HP:=AA (fun W=>A9w (S x) (by rw[HSX.out.2];omega) W)
  exact C1c
theorem B4B(x:List UInt8)(b o c B:Nat)(w:World)(hb:b<B)(hB:B≤w.heap.size)(c0:w.cell? ⟨b,o,none⟩=some (.string (S A0H)))(c1:w.cell? ⟨b,o+1,none⟩=some (.string (S x)))(ht:TabI w):
 Calls Tryz.prog 97 #[.slice (some ⟨b,o,none⟩) 2 c] w fun e w'=>e=askA A0H [x]∧Below w.heap.size w w':=by
 have hbw:b<w.heap.size:=EE
 have q1:((S A0H).toList==[112,101,114,105,111,100,115])=false:=by rw[eqk];decide
 have q2:((S A0H).toList==[102,105,110,100])=false:=by rw[eqk];decide
 have q3:((S A0H).toList==[115,112,108,105,116])=false:=by rw[eqk];decide
 have q4:((S A0H).toList==[116,117,114,110])=true:=by rw[eqk];decide
 have q5:((S A0H).toList==[102,97,114])=false:=by rw[eqk];decide
 have HK:Hid (askK A0H [x].length=4):=by unfold Hid;exact(by decide:askK A0H 1=4)
 generalize S A0H=X0 at*
 have HSX:Hid (L (S x)=x∧(S x).size=x.length):=⟨L_S x,A0b x⟩
 by_cases hl:x.length≤200
 ·have HE:Hid (askE A0H [x]=0):=by unfold Hid askE;rw[HK.out,if_neg EF];exact A7k hl
  rw[A5k HE.out]
  have HT:=HK.out
  clear HE
  have HT:Hid (askT A0H [x]=A1p x++ [32]++Lib.itoa (A1g x:Nat)):=by unfold Hid askT;simp only;rw[HK.out];rfl
  rw[HT.out]
  have HP:=AA (fun W=>B3c (S x) (by rw[HSX.out.2];exact hl) W)
  rw[HSX.out.1] at HP
  have hta:A1g x≤200:=by
   exact C0f
  have HI:=AA (fun W (hW:Below w.heap.size w W)=>A1Z ((A1g x:Nat):Int) EE EE ht hW)
  have HEX:Hid (S (A1p x)++⟨#[32]⟩++S (Lib.itoa (A1g x:Nat))=S (A1p x++ [32]++Lib.itoa (A1g x:Nat))):=by
   exact C0i
  have z0:(S (A1p x)).size≤200:=by rw[A0b,A3Z];exact hl
  have z1:(S (Lib.itoa ((A1g x:Nat):Int))).size≤21:=by rw[A0b];exact Lib.itoa_length_le _ EE EE
  rw[←HEX.out]
  clear HT HK HSX hl HEX hta
  generalize S x=X1 at*
  generalize S (A1p x)=Y0 at*
  generalize S (Lib.itoa (A1g x:Nat))=Y1 at*
  generalize A1g x=k at*
  go_enter Tryz.func97,Tryz.ntmps97
  go_wp2_with fail
  refine(HP.out _).mono ?_
  rintro e w1 ⟨rfl,hb1⟩
  exact C2M
 ·have HE:Hid (askE A0H [x]=2):=by unfold Hid askE;rw[HK.out,if_neg EF];exact A6w hl
  rw[A3X HE.out EF]
  have HMU:=AA (fun W=>A1f 2 EF W)
  clear HE HK
  have HP:=AA (fun W=>B0T (S x) (by rw[HSX.out.2];omega) W)
  exact C1c
theorem B6l(x y:List UInt8)(hy:0<y.length)(b o c B:Nat)(w:World)(hb:b<B)(hB:B≤w.heap.size)(c0:w.cell? ⟨b,o,none⟩=some (.string (S kFar)))(c1:w.cell? ⟨b,o+1,none⟩=some (.string (S x)))(c2:w.cell? ⟨b,o+2,none⟩=some (.string (S y)))(ht:TabI w):
 Calls Tryz.prog 97 #[.slice (some ⟨b,o,none⟩) 3 c] w fun e w'=>e=askA kFar [x,y]∧Below w.heap.size w w':=by
 have hbw:b<w.heap.size:=EE
 have q1:((S kFar).toList==[112,101,114,105,111,100,115])=false:=by rw[eqk];decide
 have q2:((S kFar).toList==[102,105,110,100])=false:=by rw[eqk];decide
 have q3:((S kFar).toList==[115,112,108,105,116])=false:=by rw[eqk];decide
 have q4:((S kFar).toList==[116,117,114,110])=false:=by rw[eqk];decide
 have q5:((S kFar).toList==[102,97,114])=true:=by rw[eqk];decide
 have HK:Hid (askK kFar [x,y].length=5):=by unfold Hid;exact(by decide:askK kFar 2=5)
 generalize S kFar=X0 at*
 have HSX:Hid (L (S x)=x∧(S x).size=x.length):=⟨L_S x,A0b x⟩
 have HSY:Hid (L (S y)=y∧(S y).size=y.length):=⟨L_S y,A0b y⟩
 by_cases hl:x.length≤200∧y.length≤200
 ·have HE:Hid (askE kFar [x,y]=0):=by unfold Hid askE;rw[HK.out,if_neg EF];exact B0p hl
  rw[A5k HE.out]
  have HT:=HK.out
  clear HE
  have HT:Hid (askT kFar [x,y]=Lib.itoa (lev x y:Nat)):=by unfold Hid askT;simp only;rw[HK.out];rfl
  rw[HT.out]
  have HP:=AA (fun W=>B4g (S x) (S y) (by rw[HSX.out.2];exact hl.1) (by rw[HSY.out.2];exact hl.2) W)
  rw[HSX.out.1,HSY.out.1] at HP
  have hlv:=A5i x y
  have HI:=AA (fun W (hW:Below w.heap.size w W)=>A1Z ((lev x y:Nat):Int) EE EE ht hW)
  clear HT HK HSX HSY hl hy hlv
  generalize S x=X1 at*
  generalize S y=X2 at*
  generalize S (Lib.itoa (lev x y:Nat))=Y1 at*
  generalize lev x y=k at*
  go_enter Tryz.func97,Tryz.ntmps97
  go_wp2_with fail
  obtain⟨F1,HF1,hcell10,hcell11⟩:=cells2 ⟨b,o+1,none⟩ (.string X1) ⟨b,o+2,none⟩ (.string X2)
  refine EB [(0,true),(1,true),(2,true),(3,true),(4,true),(5,true),(6,false),(7,true),(8,true),(9,true),(10,true),(11,true)] HF1 ?_
  intro hne1
  simp only[A0i,AT,AP,AR]
  repeat(first|((first|refine Dt ?_|refine Du ?_);intro K hK;go_big_quiet_op;go_big_quiet_on)|((first|refine Dv ?_|refine Dw ?_);simp only[Act.put,AB,AE,AF]))
  refine A0a ?_
  go_wp2_with fail
  refine(HP.out _).mono ?_
  rintro e w1 ⟨rfl,hb1⟩
  have hb1:Below w.heap.size w w1:=(Bl (AI _ _)).trans hb1
  have c1':=(hb1.cell (p:=⟨b,o+1,none⟩) hbw).trans c1
  have c2':=(hb1.cell (p:=⟨b,o+2,none⟩) hbw).trans c2
  go_wp2_with fail
  refine ED HF1 ?_ ⟨c1',c2'⟩
  repeat(first|((first|refine Dt ?_|refine Du ?_);intro K hK;go_big_quiet_op;go_big_quiet_on)|((first|refine Dv ?_|refine Dw ?_);simp only[Act.put,AB,AE,AF]))
  refine A0g ?_
  clear HF1 c1' c2'
  exact C2M
 ·have HE:Hid (askE kFar [x,y]=2):=by unfold Hid askE;rw[HK.out,if_neg EF];exact A8P hl
  rw[A3X HE.out EF]
  have HMU:=AA (fun W=>A1f 2 EF W)
  clear HE HK
  have HP:=AA (fun W=>B2R (S x) (S y) (by rw[HSX.out.2,HSY.out.2];omega) W)
  exact C0L
theorem B4C(x0:List UInt8)(b o n c B:Nat)(w:World)(hn:2≤n)(hk:askK x0 (n-1)=0)(hb:b<B)(hB:B≤w.heap.size)(c0:w.cell? ⟨b,o,none⟩=some (.string (S x0))):
 Calls Tryz.prog 97 #[.slice (some ⟨b,o,none⟩) n c] w fun e w'=>e= .panicked [{v:=refV 12,recovered:=false}]∧Below w.heap.size w w':=by
 have HMU:=AA (fun W=>A1f 12 EF W)
 have hn0:0<n:=EE
 have g1:decide ((n:Int)<2)=false:=AC EE
 have g1':decide (n<2)=false:=AC EE
 have hbw:b<w.heap.size:=EE
 clear hB hb
 by_cases h1:x0=kPer
 ·have h:=h1
  clear h1
  subst h
  have q1:((S kPer).toList==[112,101,114,105,111,100,115])=true:=by rw[eqk];decide
  have q2:((S kPer).toList==[102,105,110,100])=false:=by rw[eqk];decide
  have q3:((S kPer).toList==[115,112,108,105,116])=false:=by rw[eqk];decide
  have q4:((S kPer).toList==[116,117,114,110])=false:=by rw[eqk];decide
  have q5:((S kPer).toList==[102,97,114])=false:=by rw[eqk];decide
  have hn9:n≠2:=fun h=>by rw[h] at hk;exact absurd hk EF
  have g3:((n:Int)==2)=false:=by rw[AH];omega
  have g3':(n==2)=false:=by rw[AH];omega
  generalize S kPer=X0 at*
  exact C2J
 by_cases h2:x0=A0G
 ·have h:=h2
  clear h1
  clear h2
  subst h
  have q1:((S A0G).toList==[112,101,114,105,111,100,115])=false:=by rw[eqk];decide
  have q2:((S A0G).toList==[102,105,110,100])=true:=by rw[eqk];decide
  have q3:((S A0G).toList==[115,112,108,105,116])=false:=by rw[eqk];decide
  have q4:((S A0G).toList==[116,117,114,110])=false:=by rw[eqk];decide
  have q5:((S A0G).toList==[102,97,114])=false:=by rw[eqk];decide
  have hn9:n≠3:=fun h=>by rw[h] at hk;exact absurd hk EF
  have g3:((n:Int)==3)=false:=by rw[AH];omega
  have g3':(n==3)=false:=by rw[AH];omega
  generalize S A0G=X0 at*
  exact C2J
 by_cases h3:x0=A0v
 ·have h:=h3
  clear h1 h2
  clear h3
  subst h
  have q1:((S A0v).toList==[112,101,114,105,111,100,115])=false:=by rw[eqk];decide
  have q2:((S A0v).toList==[102,105,110,100])=false:=by rw[eqk];decide
  have q3:((S A0v).toList==[115,112,108,105,116])=true:=by rw[eqk];decide
  have q4:((S A0v).toList==[116,117,114,110])=false:=by rw[eqk];decide
  have q5:((S A0v).toList==[102,97,114])=false:=by rw[eqk];decide
  have hn9:n≠2:=fun h=>by rw[h] at hk;exact absurd hk EF
  have g3:((n:Int)==2)=false:=by rw[AH];omega
  have g3':(n==2)=false:=by rw[AH];omega
  generalize S A0v=X0 at*
  exact C2J
 by_cases h4:x0=A0H
 ·have h:=h4
  clear h1 h2 h3
  clear h4
  subst h
  have q1:((S A0H).toList==[112,101,114,105,111,100,115])=false:=by rw[eqk];decide
  have q2:((S A0H).toList==[102,105,110,100])=false:=by rw[eqk];decide
  have q3:((S A0H).toList==[115,112,108,105,116])=false:=by rw[eqk];decide
  have q4:((S A0H).toList==[116,117,114,110])=true:=by rw[eqk];decide
  have q5:((S A0H).toList==[102,97,114])=false:=by rw[eqk];decide
  have hn9:n≠2:=fun h=>by rw[h] at hk;exact absurd hk EF
  have g3:((n:Int)==2)=false:=by rw[AH];omega
  have g3':(n==2)=false:=by rw[AH];omega
  generalize S A0H=X0 at*
  exact C2J
 by_cases h5:x0=kFar
 ·have h:=h5
  clear h1 h2 h3 h4
  clear h5
  subst h
  have q1:((S kFar).toList==[112,101,114,105,111,100,115])=false:=by rw[eqk];decide
  have q2:((S kFar).toList==[102,105,110,100])=false:=by rw[eqk];decide
  have q3:((S kFar).toList==[115,112,108,105,116])=false:=by rw[eqk];decide
  have q4:((S kFar).toList==[116,117,114,110])=false:=by rw[eqk];decide
  have q5:((S kFar).toList==[102,97,114])=true:=by rw[eqk];decide
  have hn9:n≠3:=fun h=>by rw[h] at hk;exact absurd hk EF
  have g3:((n:Int)==3)=false:=by rw[AH];omega
  have g3':(n==3)=false:=by rw[AH];omega
  generalize S kFar=X0 at*
  exact C2J
 have q1:((S x0).toList==[112,101,114,105,111,100,115])=false:=by rw[eqk];exact AC h1
 have q2:((S x0).toList==[102,105,110,100])=false:=by rw[eqk];exact AC h2
 have q3:((S x0).toList==[115,112,108,105,116])=false:=by rw[eqk];exact AC h3
 have q4:((S x0).toList==[116,117,114,110])=false:=by rw[eqk];exact AC h4
 have q5:((S x0).toList==[102,97,114])=false:=by rw[eqk];exact AC h5
 clear h1 h2 h3 h4 h5 hk
 generalize S x0=X0 at*
 go_enter Tryz.func97,Tryz.ntmps97
 exact B9O
end Go.Proofs.YtplgghjdidmcfaaGreatDoor
