/- Written anew, smaller, by a program of our own out of our texts. No condition of our own. -/
import Derived.Test.YtplgghjdidmcfaaGreatDoorQ01
set_option maxRecDepth 100000
set_option maxHeartbeats 16000000
set_option linter.all false
namespace Go.Proofs.YtplgghjdidmcfaaGreatDoor
open Go.RowKit
theorem C1O{P:Prop}(h:P:=by
 refine wpQuiet_nil ?_
 intro w2 hb20
 have hb2:=A0B hb20
 clear hb20
 go_wp2
 go_ret
 exact⟨B1j HR.out.symm,hb2⟩
 ):P:=h
end Go.Proofs.YtplgghjdidmcfaaGreatDoor
namespace Go.Proofs.YtplgghjdidmcfaaGreatDoor
def lsb(x:Nat):Nat:=(x/2)^^^((x%2)*2197175160)
def lsbN:Nat→Nat→Nat
 |0,x=>x
 |n+1,x=>lsb (lsbN n x)
def A9q(x:Nat)(c:UInt8):Nat:=lsbN 8 (x^^^c.toNat)
def A2T(x:Nat)(l:List UInt8):Nat:=l.foldl A9q x
def msb(x b:Nat):Nat:=if(x/2147483648)^^^b=1 then(x*2%4294967296)^^^517762881 else x*2%4294967296
def msbN(c:Nat):Nat→Nat→Nat
 |0,x=>x
 |n+1,x=>msb (msbN c n x) (c/2^n%2)
def A9r(x:Nat)(c:UInt8):Nat:=msbN c.toNat 8 x
def A2U(x:Nat)(l:List UInt8):Nat:=l.foldl A9r x
def A3N(x:Nat):Nat→Nat
 |0=>0
 |n+1=>A3N x n|||((x/2^n%2)*2^(31-n))
def A3I(x y:Nat):Prop:=x<4294967296∧y<4294967296∧∀i,i<32→x.testBit i=y.testBit (31-i)
theorem B5l(x b:Nat):msb x b<4294967296:=by
 unfold msb
 have h:x*2%4294967296<2^32:=DV _ EF
 split
 ·exact DR h EF
 ·exact h
theorem B7s(Y:Nat)(hY:Y<4294967296):bits BinOp.xor IntKind.u32 ((Y:Int)/2) (bits BinOp.and IntKind.u32 (Y:Int) 1*2197175160%4294967296)=((lsb Y:Nat):Int):=by
 have h1:=u32_and_nat Y 1 hY EE
 rw[nat_mask1] at h1
 rw[show((1:Int))=((1:Nat):Int) from rfl,h1]
 have h2:((Y%2:Nat):Int)*2197175160%4294967296=((Y%2*2197175160:Nat):Int):=EE
 rw[h2,show(Y:Int)/2=((Y/2:Nat):Int) from by omega]
 exact u32_xor_nat _ _ EE (by omega)
theorem A5Z(l:List UInt8)(k:Nat)(h:k<l.length):l.take (k+1)=l.take k++ [l.getD k 0]:=by
 rw[Aa h,AK,AL h];rfl
theorem B2I(x:Nat)(l:List UInt8)(k:Nat)(h:k<l.length):A2T x (l.take (k+1))=A9q (A2T x (l.take k)) (l.getD k 0):=by
 unfold A2T
 rw[A5Z l k h,Dc];rfl
theorem B2J(x:Nat)(l:List UInt8)(k:Nat)(h:k<l.length):A2U x (l.take (k+1))=A9r (A2U x (l.take k)) (l.getD k 0):=by
 unfold A2U
 rw[A5Z l k h,Dc];rfl
theorem B5m(x:Nat)(h:x<4294967296):lsb x<4294967296:=by
 unfold lsb
 exact DR (n:=32) EE (by rcases DG x with e|e<;>rw[e]<;>decide)
theorem not32(X:Nat)(hX:X<4294967296):4294967295^^^X=4294967295-X:=by
 have h:=congrArg BitVec.toNat (BitVec.allOnes_xor (x:=BitVec.ofNat 32 X))
 rw[BitVec.toNat_xor,BitVec.toNat_not,BitVec.toNat_ofNat,Bk EE,BitVec.toNat_allOnes] at h
 simpa using h
theorem B1m(X:Nat)(hX:X<4294967296):bits BinOp.xor IntKind.u32 IntKind.u32.max (X:Int)=((4294967295-X:Nat):Int):=by
 have h:=u32_xor_nat 4294967295 X EE hX
 rw[not32 X hX] at h
 exact h
theorem B7t(Y c j:Nat)(hY:Y<4294967296)(hc:c<256):bits BinOp.xor IntKind.u32 ((Y:Int)/2147483648) (bits BinOp.and IntKind.u8 ((c:Int)/2^j) 1%4294967296)=(((Y/2147483648)^^^(c/2^j%2):Nat):Int):=by
 have e:((c:Int)/2^j)=((c/2^j:Nat):Int):=by
  rw[Int.natCast_ediv,Int.natCast_pow];rfl
 have hlt:c/2^j<256:=Nat.lt_of_le_of_lt (Nat.div_le_self _ _) hc
 have h1:=u8_and_nat (c/2^j) 1 hlt EE
 rw[nat_mask1] at h1
 rw[e,show((1:Int))=((1:Nat):Int) from rfl,h1]
 have h2:((c/2^j%2:Nat):Int)%4294967296=((c/2^j%2:Nat):Int):=EE
 rw[h2,show(Y:Int)/2147483648=((Y/2147483648:Nat):Int) from by omega]
 exact u32_xor_nat _ _ EE (by omega)
theorem B7u(Y:Nat):Value.int IntKind.u32 ((Y:Int)*2%4294967296)= .int .u32 ((Y*2%4294967296:Nat):Int):=congrArg _ (by omega)
theorem B7v(Y:Nat):Value.int IntKind.u32 (bits BinOp.xor IntKind.u32 ((Y:Int)*2%4294967296) 517762881)= .int .u32 (((Y*2%4294967296)^^^517762881:Nat):Int):=by
 rw[show(Y:Int)*2%4294967296=((Y*2%4294967296:Nat):Int) from by omega]
 exact congrArg _ (u32_xor_nat _ 517762881 (DV _ EE) EE)
theorem B1n(x n:Nat):A3N x n<4294967296:=by
 induction n with
 |zero=>show(0:Nat)<_;omega
 |succ n ih=>
  refine Nat.or_lt_two_pow (n:=32) ih ?_
  have h1:x/2^n%2<2:=DV _ EF
  have h2:2^(31-n)≤2^31:=Ch EE EE
  have h3:x/2^n%2*2^(31-n)≤1*2^31:=Nat.mul_le_mul EE h2
  omega
theorem B5n(X Y j:Nat)(hX:X<4294967296)(hY:Y<4294967296):Value.int IntKind.u32 (bits BinOp.or IntKind.u32 (Y:Int) (bits BinOp.and IntKind.u32 ((X:Int)/2^j) 1*2^(31-j)%4294967296))= .int .u32 ((Y|||X/2^j%2*2^(31-j):Nat):Int):=by
 have e:((X:Int)/2^j)=((X/2^j:Nat):Int):=by
  rw[Int.natCast_ediv,Int.natCast_pow];rfl
 have hlt:X/2^j<4294967296:=Nat.lt_of_le_of_lt (Nat.div_le_self _ _) hX
 have h1:=u32_and_nat (X/2^j) 1 hlt EE
 rw[nat_mask1] at h1
 rw[e,show((1:Int))=((1:Nat):Int) from rfl,h1]
 have h3:X/2^j%2*2^(31-j)<4294967296:=by
  have h1:X/2^j%2<2:=DV _ EF
  have h2:2^(31-j)≤2^31:=Ch EE EE
  have h3:X/2^j%2*2^(31-j)≤1*2^31:=Nat.mul_le_mul EE h2
  omega
 have h2:((X/2^j%2:Nat):Int)*2^(31-j)%4294967296=((X/2^j%2*2^(31-j):Nat):Int):=by
  have e2:((X/2^j%2*2^(31-j):Nat):Int)=((X/2^j%2:Nat):Int)*2^(31-j):=by rw[Int.natCast_mul,Int.natCast_pow];rfl
  rw[←e2]
  omega
 rw[h2]
 exact congrArg _ (u32_or_nat _ _ hY h3)
theorem B8C(n x:Nat)(h:x<4294967296):lsbN n x<4294967296:=by
 induction n with
 |zero=>exact h
 |succ n ih=>exact B5m _ ih
theorem tb(x i:Nat):x.testBit i=decide (x/2^i%2=1):=by
 rw[Nat.testBit_eq_decide_div_mod_eq]
theorem B5o:∀i,i<32→Nat.testBit 2197175160 i=Nat.testBit 517762881 (31-i):=by decide
theorem A5O(x i:Nat):(lsb x).testBit i=((x.testBit (i+1)).xor (x.testBit 0&&Nat.testBit 2197175160 i)):=by
 unfold lsb
 rw[CS]
 have h1:(x/2).testBit i=x.testBit (i+1):=by rw[Cn]
 rw[h1]
 rcases DG x with e|e
 ·have:x.testBit 0=false:=by rw[tb];simp[e]
  simp[e,this]
 ·have:x.testBit 0=true:=by rw[tb];simp[e]
  simp[e,this]
theorem B2K(x b i:Nat)(hx:x<4294967296)(hb:b<2)(hi:i<32):(msb x b).testBit i=(((decide (0<i))&&x.testBit (i-1)).xor ((x.testBit 31).xor (decide (b=1))&&Nat.testBit 517762881 i)):=by
 have hs:(x*2%4294967296).testBit i=((decide (0<i))&&x.testBit (i-1)):=by
  rw[show(4294967296:Nat)=2^32 from rfl,Nat.testBit_mod_two_pow]
  cases i with
  |zero=>simp[tb]
  |succ i=>
   rw[show x*2=2*x from Ck _ _,Cn]
   simp[hi]
 have h31:x/2147483648=(x.testBit 31).toNat:=by
  rw[tb,show(2:Nat)^31=2147483648 from rfl]
  have:x/2147483648<2:=EE
  rcases(by omega:x/2147483648=0∨x/2147483648=1) with e|e<;>simp[e]
 unfold msb
 rw[h31]
 rcases(by omega:b=0∨b=1) with rfl|rfl<;>cases h:x.testBit 31<;>simp[hs,CS]
theorem B2L{x y b:Nat}(h:A3I x y)(hb:b<2):A3I (lsb (x^^^b)) (msb y b):=by
 obtain⟨hx,hy,ht⟩:=h
 refine⟨B5m _ (DR (n:=32) hx EE),B5l _ _,fun i hi=> ?_⟩
 rw[A5O,B2K y b (31-i) hy hb EE,CS,CS,ht 0 EE,B5o i hi]
 have hb1:b.testBit (i+1)=false:=by
  rw[tb]
  have:b/2^(i+1)=0:=Nat.div_eq_of_lt (AO hb (by rw[Dq];have:=Nat.one_le_two_pow (n:=i);omega))
  simp[this]
 have hb0:b.testBit 0=decide (b=1):=by rw[tb];rcases(by omega:b=0∨b=1) with rfl|rfl<;>rfl
 rw[hb1,hb0,Bool.xor_false]
 congr 1
 by_cases h31:i=31
 ·subst h31
  have:x.testBit 32=false:=Nat.testBit_lt_two_pow hx
  simp[this]
 ·rw[ht (i+1) EE]
  have e:31-(i+1)=31-i-1:=EE
  rw[e]
  have:0<31-i:=EE
  simp[this]
theorem B7w(x d:Nat):lsb (x^^^(2*d))=lsb x^^^d:=by
 apply Nat.eq_of_testBit_eq
 intro i
 rw[A5O,CS,CS,CS,A5O]
 have h1:(2*d).testBit (i+1)=d.testBit i:=by rw[Cn];simp
 have h0:(2*d).testBit 0=false:=by rw[tb];simp
 rw[h1,h0,Bool.xor_false]
 cases x.testBit (i+1)<;>cases d.testBit i<;>simp
theorem B7x(n:Nat):∀x c:Nat,∃z,z=lsbN n (x^^^c)∧∀y,A3I x y→A3I (z^^^(c/2^n)) (msbN c n y):=by
 induction n with
 |zero=>
  intro x c
  refine⟨_,rfl,fun y h=> ?_⟩
  have:x^^^c^^^c=x:=by rw[Nat.xor_assoc,Nat.xor_self,Nat.xor_zero]
  simpa[lsbN,msbN,this] using h
 |succ n ih=>
  intro x c
  obtain⟨z,hz,h⟩:=ih x c
  refine⟨_,rfl,fun y hy=> ?_⟩
  have h1:=B2L (b:=c/2^n%2) (h y hy) (DV _ EF)
  have e:lsb (z^^^(c/2^n)^^^(c/2^n%2))=lsbN (n+1) (x^^^c)^^^(c/2^(n+1)):=by
   show _=lsb (lsbN n (x^^^c))^^^_
   rw[←hz]
   have e2:(c/2^n)^^^(c/2^n%2)=2*(c/2^(n+1)):=by
    rw[Dq,←Nat.div_div_eq_div_mul]
    generalize c/2^n=m
    apply Nat.eq_of_testBit_eq
    intro i
    rw[CS]
    cases i with
    |zero=>rw[tb,tb,tb];simp
    |succ i=>
     rw[Cn,Cn (m%2),Cn (2*(m/2))]
     have:m%2/2=0:=EE
     simp[this]
   rw[Nat.xor_assoc,e2,B7w]
  rw[e] at h1
  exact h1
theorem B2M{x y:Nat}(c:UInt8)(h:A3I x y):A3I (A9q x c) (A9r y c):=by
 obtain⟨z,hz,hh⟩:=B7x 8 x c.toNat
 have:=hh y h
 have hc:c.toNat/2^8=0:=Nat.div_eq_of_lt c.toNat_lt
 rw[hc,Nat.xor_zero,hz] at this
 exact this
theorem A6o(l:List UInt8):∀{x y:Nat},A3I x y→A3I (A2T x l) (A2U y l):=by
 induction l with
 |nil=>intro x y h;exact h
 |cons c l ih=>intro x y h;exact ih (B2M c h)
theorem B0H(x n i:Nat)(hn:n≤32):(A3N x n).testBit i=(decide (31-i<n∧i<32)&&x.testBit (31-i)):=by
 induction n with
 |zero=>simp[A3N]
 |succ n ih=>
  unfold A3N
  rw[Nat.testBit_or,ih EE]
  have e:(x/2^n%2*2^(31-n)).testBit i=(decide (i=31-n)&&x.testBit n):=by
   rw[tb x n]
   rcases DG (x/2^n) with e|e
   ·simp[e]
   ·rw[e,Ct,Nat.testBit_two_pow]
    by_cases h:i=31-n
    ·subst h;simp
    ·have:¬31-n=i:=fun hh=>h hh.symm
     simp[h,this]
  rw[e]
  by_cases h:i=31-n
  ·subst h
   have h2:31-(31-n)=n:=EE
   rw[h2]
   have h3:¬n<n:=EE
   simp[h3];intro;omega
  ·by_cases hi:i<32
   ·have:(31-i<n+1)↔(31-i<n):=EE
    simp[h,this]
   ·simp[h,hi]
theorem B2N{x y:Nat}(h:A3I x y):A3N y 32=x:=by
 obtain⟨hx,hy,ht⟩:=h
 apply Nat.eq_of_testBit_eq
 intro i
 rw[B0H _ _ _ (AD _)]
 by_cases hi:i<32
 ·rw[ht i hi]
  have:31-i<32∧i<32:=⟨by omega,hi⟩
  simp[this]
 ·have:x.testBit i=false:=Nat.testBit_lt_two_pow (AO hx (Ch (n:=2) EE (by omega:32≤i)))
  simp[hi,this]
theorem A5P:A3I 4294967295 4294967295:=by
 refine⟨by decide,by decide,fun i hi=> ?_⟩
 have h:∀j,j<32→Nat.testBit 4294967295 j=true:=by decide
 rw[h i hi,h (31-i) EE]
def A2V(l:List UInt8):Nat:=4294967295-A2T 4294967295 l
theorem A8o(l:List UInt8):A3N (A2U 4294967295 l) 32=A2T 4294967295 l:=B2N (A6o l A5P)
theorem B5p(l:List UInt8):A2T 4294967295 l<4294967296:=(A6o l A5P).1
theorem B5q(l:List UInt8):A2U 4294967295 l<4294967296:=(A6o l A5P).2.1
theorem A6M(l:List UInt8):A2V l<4294967296:=by unfold A2V;omega
theorem B8D(l:List UInt8):4294967295-A3N (A2U 4294967295 l) 32=A2V l:=by rw[A8o];rfl
end Go.Proofs.YtplgghjdidmcfaaGreatDoor
namespace Go.Proofs.YtplgghjdidmcfaaGreatDoor
open Go.RowKit
theorem A9Q(s:ByteArray)(w:World)(hs:s.size≤140737488351232):
 Calls Tryz.prog 200 #[.string s] w fun e w'=>e= .returned (.int .u32 (A2V (L s):Nat))∧Below w.heap.size w w':=by
 have hcv:=fun W=>CY (P:=Tryz.prog) W 9 119 5 s Tryz.underlying9 Tryz.underlying119 Tryz.underlying5
 go_enter Tryz.func200,Tryz.ntmps200
 go_wp2
 have hW:Below w.heap.size w (Lib.bytesWorld w 5 s):=A1V w _ s
 have hcells:=DK w 5 s
 generalize Lib.bytesWorld w 5 s=w1 at hW hcells⊢
 have Hc:=AA hcells;clear hcells
 clear hcv
 go_loop [3,9] (fun x i=>∃k:Nat,k≤s.size∧i= .int .i64 k∧x= .int .u32 (A2T 4294967295 (s.data.toList.take k):Nat)) (fun _ i=>s.size-(intOf i).toNat)
 case atStart=>exact⟨0,AS _,rfl,rfl⟩
 case round=>
  obtain⟨k,hk,rfl,rfl⟩:=hrel
  have hX:=B5p (s.data.toList.take k)
  have HN:Hid (k<s.size→A2T 4294967295 (s.data.toList.take (k+1))=lsbN 8 (A2T 4294967295 (s.data.toList.take k)^^^(s.data.toList.getD k 0).toNat)):=fun h=>B2I _ _ k (by rw[blen];exact h)
  have HE:Hid (k=s.size→A2T 4294967295 (s.data.toList.take k)=A2T 4294967295 s.data.toList):=fun h=>by rw[AX (by rw[blen];omega)]
  generalize A2T 4294967295 (s.data.toList.take k)=X at*
  by_cases hlt:k<s.size
  ·have hc:=Hc.out k hlt
   have hb:(s.data.toList.getD k 0).toNat<256:=CH _
   have hxor:=u32_xor_nat X (s.data.toList.getD k 0).toNat hX EE
   generalize(s.data.toList.getD k 0).toNat=c at*
   go_wp2
   go_loop [3,17] (fun x i=>∃j:Nat,j≤8∧i= .int .i64 j∧x= .int .u32 (lsbN j (X^^^c):Nat)) (fun _ i=>8-(intOf i).toNat)
   case atStart=>exact⟨0,AS _,rfl,rfl⟩
   case round=>
    obtain⟨j,hj,rfl,rfl⟩:=hrel
    by_cases hlt8:j<8
    ·have hY:lsbN j (X^^^c)<4294967296:=B8C _ _ (DR (n:=32) hX EE)
     have HS:Hid (lsbN (j+1) (X^^^c)=lsb (lsbN j (X^^^c))):=rfl
     generalize lsbN j (X^^^c)=Y at*
     go_wp2
     go_round
     case rel=>exact⟨j+1,by omega,by go_num,by rw[HS.out,B7s Y hY]⟩
     case measure=>simp[intOf];omega
    ·obtain rfl:j=8:=EE
     go_wp2
     go_round
     case rel=>exact⟨k+1,by omega,by go_num,by rw[HN.out hlt]⟩
     case measure=>simp[intOf];omega
  ·have hs32:IntKind.u32.signed=false:=rfl
   have HE':=AA (HE.out EE);clear HE
   go_wp2
   go_ret
   exact⟨A0S (by rw[B1m X hX,HE'.out];rfl),hW⟩
theorem B4b(s:ByteArray)(w:World)(hs:s.size≤140737488351232):
 Calls Tryz.prog 178 #[.string s] w fun e w'=>e= .returned (.int .u32 (A2V (L s):Nat))∧Below w.heap.size w w':=by
 have hcv:=fun W=>CY (P:=Tryz.prog) W 9 119 5 s Tryz.underlying9 Tryz.underlying119 Tryz.underlying5
 go_enter Tryz.func178,Tryz.ntmps178
 go_wp2
 have hW:Below w.heap.size w (Lib.bytesWorld w 5 s):=A1V w _ s
 have hcells:=DK w 5 s
 generalize Lib.bytesWorld w 5 s=w1 at hW hcells⊢
 have Hc:=AA hcells;clear hcells
 clear hcv
 have HZ:=AA (A8o s.data.toList)
 go_loop [3,13] (fun x i=>∃k:Nat,k≤s.size∧i= .int .i64 k∧x= .int .u32 (A2U 4294967295 (s.data.toList.take k):Nat)) (fun _ i=>s.size-(intOf i).toNat)
 case atStart=>exact⟨0,AS _,rfl,rfl⟩
 case round=>
  obtain⟨k,hk,rfl,rfl⟩:=hrel
  have hX:=B5q (s.data.toList.take k)
  have HN:Hid (k<s.size→A2U 4294967295 (s.data.toList.take (k+1))=msbN (s.data.toList.getD k 0).toNat 8 (A2U 4294967295 (s.data.toList.take k))):=fun h=>B2J _ _ k (by rw[blen];exact h)
  have HE:Hid (k=s.size→A2U 4294967295 (s.data.toList.take k)=A2U 4294967295 s.data.toList):=fun h=>by rw[AX (by rw[blen];omega)]
  generalize A2U 4294967295 (s.data.toList.take k)=X at*
  by_cases hlt:k<s.size
  ·have hc:=Hc.out k hlt
   have hb:(s.data.toList.getD k 0).toNat<256:=CH _
   generalize(s.data.toList.getD k 0).toNat=c at*
   go_wp2
   go_loop [3,17] (fun x i=>∃j:Nat,j≤8∧i= .int .i64 j∧x= .int .u32 (msbN c j X:Nat)) (fun _ i=>8-(intOf i).toNat)
   case atStart=>exact⟨0,AS _,rfl,rfl⟩
   case round=>
    obtain⟨j,hj,rfl,rfl⟩:=hrel
    by_cases hlt8:j<8
    ·have HS:Hid (msbN c (j+1) X=msb (msbN c j X) (c/2^j%2)):=rfl
     have hY:msbN c j X<4294967296:=by
      cases j with
      |zero=>exact hX
      |succ j=>exact B5l _ _
     generalize msbN c j X=Y at*
     have hbit:=B7t Y c j hY hb
     have hm1:∀b,Y/2147483648^^^b=1→msb Y b=(Y*2%4294967296)^^^517762881:=fun b h=>by unfold msb;rw[if_pos h]
     have hm2:∀b,¬Y/2147483648^^^b=1→msb Y b=Y*2%4294967296:=fun b h=>by unfold msb;rw[if_neg h]
     have Hm1:=AA (hm1 (c/2^j%2))
     have Hm2:=AA (hm2 (c/2^j%2))
     clear hm1 hm2
     generalize Y/2147483648^^^(c/2^j%2)=b at*
     by_cases hb1:b=1
     ·have Hb:=AA hb1
      have hbb:(((b:Nat):Int)==1)=true:=by rw[hb1];rfl
      clear hb1
      go_wp2
      go_round
      case rel=>exact⟨j+1,by omega,by go_num,by rw[HS.out,Hm1.out Hb.out];exact B7v Y⟩
      case measure=>simp[intOf];omega
     ·have hbb:(((b:Nat):Int)==1)=false:=by simp;omega
      have Hb:=AA hb1
      clear hb1
      go_wp2
      go_round
      case rel=>exact⟨j+1,by omega,by go_num,by rw[HS.out,Hm2.out Hb.out];exact B7u Y⟩
      case measure=>simp[intOf];omega
    ·obtain rfl:j=8:=EE
     go_wp2
     go_round
     case rel=>exact⟨k+1,by omega,by go_num,by rw[HN.out hlt]⟩
     case measure=>simp[intOf];omega
  ·have hs32:IntKind.u32.signed=false:=rfl
   have HE':=AA (HE.out EE);clear HE
   go_wp2
   go_loop [8,36] (fun x i=>∃j:Nat,j≤32∧i= .int .i64 j∧x= .int .u32 (A3N X j:Nat)) (fun _ i=>32-(intOf i).toNat)
   case atStart=>exact⟨0,AS _,rfl,rfl⟩
   case round=>
    obtain⟨j,hj,rfl,rfl⟩:=hrel
    by_cases hlt8:j<32
    ·have hB:=B1n X j
     have HS:Hid (A3N X (j+1)=A3N X j|||(X/2^j%2*2^(31-j))):=rfl
     generalize A3N X j=Y at*
     go_wp2
     go_round
     case rel=>exact⟨j+1,by omega,by go_num,by rw[HS.out];exact B5n X Y j hX hB⟩
     case measure=>simp[intOf];omega
    ·obtain rfl:j=32:=EE
     have hB:=B1n X 32
     have HM:=AA (B8D s.data.toList)
     go_wp2
     go_ret
     exact⟨A0S (by rw[B1m _ hB,HE'.out,HM.out];rfl),hW⟩
def A7v(x:Nat):List UInt8:=[UInt8.ofNat x,UInt8.ofNat (x/256),UInt8.ofNat (x/65536),UInt8.ofNat (x/16777216)]
def A4V(x:Nat):ByteArray:=⟨(A7v x).toArray⟩
theorem B4c(x:Nat)(hx:x<4294967296):(#[Value.int .u8 ((x:Int)%256),.int .u8 ((x:Int)/256%256),.int .u8 ((x:Int)/65536%256),.int .u8 ((x:Int)/16777216)]:Array Value).toList=byteCells (A7v x):=by
 have h0:(x:Int)%256=((UInt8.ofNat x).toNat:Int):=by rw[Bt];omega
 have h1:(x:Int)/256%256=((UInt8.ofNat (x/256)).toNat:Int):=by rw[Bt];omega
 have h2:(x:Int)/65536%256=((UInt8.ofNat (x/65536)).toNat:Int):=by rw[Bt];omega
 have h3:(x:Int)/16777216=((UInt8.ofNat (x/16777216)).toNat:Int):=by rw[Bt];omega
 rw[h0,h1,h2,h3]
 rfl
theorem A9R(x:Nat)(hx:x<4294967296)(w:World):
 (convert 119 9 (.slice (some ⟨w.heap.size,0,none⟩) 4 4)).run Tryz.prog (w.alloc (.cells #[Value.int .u8 ((x:Int)%256),.int .u8 ((x:Int)/256%256),.int .u8 ((x:Int)/65536%256),.int .u8 ((x:Int)/16777216)] 5))=
  .ok (.string (A4V x)) (w.alloc (.cells #[Value.int .u8 ((x:Int)%256),.int .u8 ((x:Int)/256%256),.int .u8 ((x:Int)/65536%256),.int .u8 ((x:Int)/16777216)] 5)):=
 A3V _ Tryz.underlying119 Tryz.underlying5 Tryz.underlying9 (A:=some ⟨w.heap.size,0,none⟩) (n:=4) (c:=4) (B:=w.heap.size+1) (l:=A7v x)
  (by rw[←B4c x hx];exact Rd.new_ (n:=4) (size:=1) w _ _ (Nat.lt_succ_self _) rfl)
theorem A6N(x:Nat)(hx:x<4294967296)(w:World):
 Calls Tryz.prog 199 #[.int .u32 (x:Int)] w fun e w'=>e= .returned (.string (A4V x))∧Below w.heap.size w w':=by
 have hcv:=A9R x hx w
 go_enter Tryz.func199,Tryz.ntmps199
 go_wp2
 go_ret
 exact⟨rfl,(AI _ _).alloc (AD _) _⟩
theorem B2O(x:Nat)(hx:x<4294967296)(w:World):
 Calls Tryz.prog 177 #[.int .u32 (x:Int)] w fun e w'=>e= .returned (.string (A4V x))∧Below w.heap.size w w':=by
 have hcv:=A9R x hx w
 go_enter Tryz.func177,Tryz.ntmps177
 go_wp2
 go_ret
 exact⟨rfl,(AI _ _).alloc (AD _) _⟩
def A4d(s:ByteArray):Bool:=decide (4≤s.size)&&((A4V (A2V (L (s.extract 0 (s.size-4))))).toList==(s.extract (s.size-4) s.size).toList)
theorem A6O(s:ByteArray)(hs:s.size≤140737488351232)(w:World):
 Calls Tryz.prog 171 #[.string s] w fun e w'=>e= .returned (.bool (A4d s))∧Below w.heap.size w w':=by
 by_cases h4:4≤s.size
 ·have HR:Hid (A4d s=((A4V (A2V (L (s.extract 0 (s.size-4))))).toList==(s.extract (s.size-4) s.size).toList)):=by
   unfold Hid A4d;simp[h4]
  have hg2:decide ((4:Int)≤(s.size:Int))=true:=by simp;omega
  have hg3:decide (4≤s.size)=true:=by simp;omega
  go_enter Tryz.func171,Tryz.ntmps171
  go_wp2_with fail
  refine wp_region_quiet_below EG EG ?_
  repeat(go_big_quiet_step ((first
   |(go_at_call 200;exact BS (A9Q _ _ (by first|omega|(simp<;>omega))))
   |(go_at_call 199;exact BS (A6N _ (A6M _) _)))))
  exact C1O
 ·have HR:Hid (A4d s=false):=by
   unfold Hid A4d;simp[h4]
  have hg2:decide ((4:Int)≤(s.size:Int))=false:=by simp;omega
  have hg3:decide (4≤s.size)=false:=by simp;omega
  go_enter Tryz.func171,Tryz.ntmps171
  go_wp2_with fail
  refine wp_region_quiet_below EG EG ?_
  repeat(go_big_quiet_step (fail))
  exact C1O
end Go.Proofs.YtplgghjdidmcfaaGreatDoor
namespace Go.Proofs.YtplgghjdidmcfaaGreatDoor
def A0q(l:List UInt8):Nat:=(l.getD 0 0).toNat*256+(l.getD 1 0).toNat
def A4e(l:List UInt8):List UInt8:=A7v (A2V l)
def A0T(rec:List UInt8):List UInt8:=(UInt8.ofNat (rec.length/256)::UInt8.ofNat rec.length::rec)++A4e (UInt8.ofNat (rec.length/256)::UInt8.ofNat rec.length::rec)
def A1P(l:List UInt8):Prop:=6≤l.length∧A0q l≤1100∧A0q l+6≤l.length∧A4e (l.take (A0q l+2))=(l.drop (A0q l+2)).take 4
instance (l:List UInt8):Decidable (A1P l):=by unfold A1P;infer_instance
def A3t(l:List UInt8):List UInt8:=(l.drop 2).take (A0q l)
def A4y:Nat→List UInt8→List (List UInt8)×Nat
 |0,_=>([],0)
 |f+1,l=>if A1P l then(A3t l::(A4y f (l.drop (A0q l+6))).1,(A4y f (l.drop (A0q l+6))).2+A0q l+6) else([],0)
def A0P(l:List UInt8):List (List UInt8)×Nat:=A4y l.length l
theorem B4d(f g:Nat)(l:List UInt8)(h1:l.length≤f)(h2:l.length≤g):A4y f l=A4y g l:=by
 induction f generalizing g l with
 |zero=>
  cases g with
  |zero=>rfl
  |succ g=>
   have:¬A1P l:=fun h=>by have:=h.1;omega
   simp[A4y,this]
 |succ f ih=>
  cases g with
  |zero=>
   have:¬A1P l:=fun h=>by have:=h.1;omega
   simp[A4y,this]
  |succ g=>
   unfold A4y
   split
   ·rw[ih g (l.drop (A0q l+6)) (by rw[AZ];omega) (by rw[AZ];omega)]
   ·rfl
theorem B1o(l:List UInt8):A0P l=if A1P l then(A3t l::(A0P (l.drop (A0q l+6))).1,(A0P (l.drop (A0q l+6))).2+A0q l+6) else([],0):=by
 unfold A0P
 rcases hl:l.length with _|n
 ·have:¬A1P l:=fun h=>by have:=h.1;omega
  simp[A4y,this]
 ·rw[A4y]
  split
  ·rw[B4d n (l.drop (A0q l+6)).length _ (by rw[AZ];omega) (AD _)]
  ·rfl
theorem A4s{l:List UInt8}(h:A1P l):A0P l=(A3t l::(A0P (l.drop (A0q l+6))).1,(A0P (l.drop (A0q l+6))).2+A0q l+6):=by rw[B1o,if_pos h]
theorem A1W{l:List UInt8}(h:¬A1P l):A0P l=([],0):=by rw[B1o,if_neg h]
theorem A6p(l:List UInt8):(A0P l).2≤l.length:=by
 have key:∀n (l:List UInt8),l.length≤n→(A0P l).2≤l.length:=by
  intro n
  induction n with
  |zero=>intro l h;rw[A1W (fun hh=>by have:=hh.1;omega)];simp
  |succ n ih=>
   intro l h
   by_cases hf:A1P l
   ·rw[A4s hf]
    have:=ih (l.drop (A0q l+6)) (by rw[AZ];omega)
    rw[AZ] at this
    have:=hf.2.2.1
    simp only
    omega
   ·rw[A1W hf];simp
 exact key _ l (AD _)
theorem A5Q(l:List UInt8):(A0P l).1.length*6≤l.length:=by
 have key:∀n (l:List UInt8),l.length≤n→(A0P l).1.length*6≤l.length:=by
  intro n
  induction n with
  |zero=>intro l h;rw[A1W (fun hh=>by have:=hh.1;omega)];simp
  |succ n ih=>
   intro l h
   by_cases hf:A1P l
   ·rw[A4s hf]
    have:=ih (l.drop (A0q l+6)) (by rw[AZ];omega)
    rw[AZ] at this
    have:=hf.2.2.1
    simp only[AM]
    omega
   ·rw[A1W hf];simp
 exact key _ l (AD _)
theorem B5r{l:List UInt8}{n:Nat}(hn:n+6≤l.length):A4d (S (l.take (n+6)))=true↔A4e (l.take (n+2))=(l.drop (n+2)).take 4:=by
 unfold A4d
 have hl:(l.take (n+6)).length=n+6:=by rw[AV];omega
 rw[A0b,A0x,L_S,hl,A2E,L_S]
 rw[beqB]
 have e1:List.take (n+6-4-0) (List.drop 0 (List.take (n+6) l))=l.take (n+2):=by rw[Az,DW];congr 1;omega
 have e2:List.take (n+6-(n+6-4)) (List.drop (n+6-4) (List.take (n+6) l))=(l.drop (n+2)).take 4:=by
  rw[DX];rw[DW];congr 1;omega
 rw[e1,e2]
 simp only[Ai,CV]
 constructor
 ·rintro⟨_,h⟩;exact S_inj h
 ·intro h;exact⟨by omega,congrArg S h⟩
theorem B5s{l:List UInt8}(h6:A0q l+6≤l.length):A0T (A3t l)=l.take (A0q l+6)↔A4e (l.take (A0q l+2))=(l.drop (A0q l+2)).take 4:=by
 rcases l with _|⟨a,_|⟨b,r⟩⟩
 ·simp only[BK] at h6;omega
 ·simp only[AM,BK] at h6;omega
 ·have hn:A0q (a::b::r)=a.toNat*256+b.toNat:=rfl
  generalize hN:A0q (a::b::r)=n at*
  have hr:A3t (a::b::r)=r.take n:=by unfold A3t;rw[hN];rfl
  have hlen:(r.take n).length=n:=by rw[AV];simp only[AM] at h6;omega
  have ha:=CH a
  have hb:=CH b
  have e1:UInt8.ofNat (n/256)=a:=by
   have:n/256=a.toNat:=EE
   rw[this];simp
  have e2:UInt8.ofNat n=b:=by
   apply Bo.1
   rw[Bt];omega
  rw[hr]
  unfold A0T
  rw[hlen,e1,e2]
  have e3:List.take (n+2) (a::b::r)=a::b::r.take n:=rfl
  have e4:List.take (n+6) (a::b::r)=(a::b::r.take n)++List.take 4 (List.drop (n+2) (a::b::r)):=by
   rw[←e3]
   have:n+6=(n+2)+4:=EE
   rw[this,List.take_add]
  rw[e3,e4]
  exact List.append_cancel_left_eq _ _ _|>.to_iff
theorem A2m(rec:List UInt8):(A0T rec).length=rec.length+6:=by
 unfold A0T A4e A7v;simp
end Go.Proofs.YtplgghjdidmcfaaGreatDoor
namespace Go.Proofs.YtplgghjdidmcfaaGreatDoor
open Go.RowKit
def ints(l:List Int):List Value:=l.map (.int .i64 ·)
end Go.Proofs.YtplgghjdidmcfaaGreatDoor
