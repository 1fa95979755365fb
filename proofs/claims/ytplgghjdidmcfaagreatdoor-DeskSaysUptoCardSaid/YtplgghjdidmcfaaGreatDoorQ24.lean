/- Written anew, smaller, by a program of our own out of our texts. No condition of our own. -/
import Derived.Test.YtplgghjdidmcfaaGreatDoorQ06
import Derived.Sort.Walk0
import Derived.Test.YtplgghjdidmcfaaGreatDoorQ19
import Derived.Test.YtplgghjdidmcfaaGreatDoorQShelf
import Derived.Test.YtplgghjdidmcfaaGreatDoorQ15
import Derived.Test.YtplgghjdidmcfaaGreatDoorQ14
import Derived.Lib.MinMaxS
import Derived.Test.YtplgghjdidmcfaaGreatDoorQ01
set_option maxRecDepth 100000
set_option maxHeartbeats 16000000
set_option linter.all false
namespace Go.Proofs.YtplgghjdidmcfaaGreatDoor
open Go.RowKit
theorem turn_S(s:ByteArray)(k:Nat):s.extract k s.size++s.extract 0 k=S (turn (L s) k):=by
 rw[A1i,A0x,A0x,Az,Bh,AX (by rw[AZ,A0e];exact AD _)];rfl
theorem B6m(a b:List UInt8):Op.bytesLess (S a).toList (S b).toList=decide (a<b):=by
 rw[bytesLess_eq]
 have h1:(S a).toList=a:=Ap _
 have h2:(S b).toList=b:=Ap _
 rw[h1,h2]
theorem A8Q(s:ByteArray)(a b:Nat)(h:b≤s.size):(s.extract a b).size=b-a:=by rw[Ak];omega
theorem B0U(s:ByteArray)(hs:s.size≤512)(w:World):
 Calls Tryz.prog 160 #[.string s] w fun e w'=>e= .returned (.bool (lynB (L s)))∧Below w.heap.size w w':=by
 have HLL:Hid ((L s).length=s.size):=A0e s
 have hemp:s.toList=L s:=Ap s
 go_enter Tryz.func160,Tryz.ntmps160
 go_wp2_with fail
 go_loopw [3] (fun k wr=>∃k':Nat,1≤k'∧(k'≤s.size∨k'=1)∧k= .int .i64 (k':Int)∧(∀q,0<q→q<k'→¬turn (L s) q<L s∧turn (L s) q≠L s)∧Below w.heap.size w wr) (fun k _=>s.size-(intOf k).toNat)
 case atStart=>exact⟨1,AD _,.inr rfl,rfl,fun q h1 h2=>by omega,AI _ _⟩
 case round=>
  obtain⟨k,hk1,hk,rfl,hno,hb⟩:=hrel
  have HNO:=AA hno
  clear hno
  by_cases hlt:k<s.size
  ·have g1:decide ((k:Int)<(s.size:Int))=true:=AG EE
   have z1:=A8Q s k s.size (AD _)
   have z2:=A8Q s 0 k EE
   have HT1:=AA (turn_S s k)
   by_cases hc:turn (L s) k<L s∨turn (L s) k=L s
   ·have HF:Hid (lynB (L s)=false):=by
     unfold Hid
     rw[Bool.eq_false_iff]
     intro hb'
     have:=(A6n.1 hb').2 k EE (by rw[HLL.out];exact hlt)
     rcases hc with h|h
     ·exact this.1 h
     ·exact this.2 h
    have g2:(Op.bytesLess (s.extract k s.size++s.extract 0 k).toList s.toList||(s.extract k s.size++s.extract 0 k).toList==s.toList)=true:=by
     rw[HT1.out,←S_L s,B6m,beqB,CB,As,As]
     rcases hc with h|h
     ·exact .inl h
     ·exact .inr (by rw[L_S,h])
    clear hc hemp
    go_wp2_with fail
    go_quiet (fail)
    go_wp2_with fail
    go_ret
    rw[HF.out]
    exact⟨rfl,A0d hb _⟩
   ·have HN:Hid (∀q,0<q→q<k+1→¬turn (L s) q<L s∧turn (L s) q≠L s):=fun q h1 h2=>by
     by_cases hq:q=k
     ·subst hq;exact⟨fun h=>hc (.inl h),fun h=>hc (.inr h)⟩
     ·exact HNO.out q h1 EE
    have g2:(Op.bytesLess (s.extract k s.size++s.extract 0 k).toList s.toList||(s.extract k s.size++s.extract 0 k).toList==s.toList)=false:=by
     rw[HT1.out,←S_L s,B6m,beqB,Bool.or_eq_false_iff,Bg,Bg]
     exact⟨fun h=>hc (.inl h),fun h=>hc (.inr (by have:=congrArg L h;exact this))⟩
    clear hc hemp
    go_wp2_with fail
    go_quiet (fail)
    go_wp2_with fail
    go_roundw
    case rel=>exact⟨k+1,by omega,.inl EE,by go_num,HN.out,A0d hb _⟩
    case measure=>simp[intOf];omega
  ·have g1:decide ((k:Int)<(s.size:Int))=false:=AC EE
   have HF:Hid (lynB (L s)= !((L s)==[])):=by
    unfold Hid
    by_cases h0:L s=[]
    ·rw[h0];rfl
    ·have h1:lynB (L s)=true:=A6n.2 ⟨h0,fun q h2 h3=>HNO.out q h2 (by rw[HLL.out] at h3;omega)⟩
     rw[h1];symm;rw[Db,AH];exact h0
   have HEM:=AA hemp
   clear hemp
   go_wp2_with fail
   go_ret
   refine⟨?_,hb⟩
   rw[HF.out,←HEM.out]
   first|rfl|(cases h:s.toList<;>rfl)
theorem B0V(s:ByteArray)(hs:s.size≤200)(w:World):
 Calls Tryz.prog 160 #[.string s] w fun e w'=>e= .returned (.bool (lynB (L s)))∧Below w.heap.size w w':=B0U s EE w
end Go.Proofs.YtplgghjdidmcfaaGreatDoor
namespace Go.Proofs.YtplgghjdidmcfaaGreatDoor
section
variable {α:Type} {le:α→α→Bool}
structure Tp (le:α→α→Bool):Prop where
 trans:∀a b c,le a b=true→le b c=true→le a c=true
 total:∀a b,(le a b||le b a)=true
theorem Tp.flip(h:Tp le){a b:α}(hn:le a b=false):le b a=true:=by
 have:=h.total a b
 rw[hn,Bool.false_or] at this
 exact this
theorem A0N(x y:α)(a b:List α):(x::a).merge (y::b) le=if le x y=true then x::a.merge (y::b) le else y::(x::a).merge b le:=List.cons_merge_cons le x y a b
theorem A4n(h:Tp le):∀(n:Nat) (a b c:List α),a.length+b.length+c.length≤n→(a.merge b le).merge c le=a.merge (b.merge c le) le
 |_,[],b,c,_=>by rw[BN,BN]
 |_,x::a,[],c,_=>by rw[BG,BN]
 |_,x::a,y::b,[],_=>by rw[BG,BG]
 |0,x::a,y::b,z::c,hn=>absurd hn EH
 |n+1,x::a,y::b,z::c,hn=>by
  simp only[AM] at hn
  have i1:=A4n h n a (y::b) (z::c) (by simp only[AM];omega)
  have i2:=A4n h n (x::a) b (z::c) (by simp only[AM];omega)
  have i3:=A4n h n (x::a) (y::b) c (by simp only[AM];omega)
  cases h1:le x y with
  |true=>
   cases h2:le y z with
   |true=>
    have h3:=h.trans x y z h1 h2
    rw[A0N x y,if_pos h1,A0N,if_pos h3,i1,A0N y z,if_pos h2,A0N,if_pos h1]
   |false=>
    have e:(y::b).merge (z::c) le=z::(y::b).merge c le:=by rw[A0N,if_neg (by rw[h2];decide)]
    cases h3:le x z with
    |true=>
     rw[A0N x y,if_pos h1,A0N,if_pos h3,i1,e,A0N,if_pos h3]
    |false=>
     have e2:x::a.merge (y::b) le=(x::a).merge (y::b) le:=by rw[A0N,if_pos h1]
     rw[e,A0N x z,if_neg (by rw[h3];decide),←i3,A0N x y,if_pos h1,A0N,if_neg (by rw[h3];decide)]
  |false=>
   cases h2:le y z with
   |true=>
    rw[A0N x y,if_neg (by rw[h1];decide),A0N,if_pos h2,i2,A0N y z,if_pos h2,A0N,if_neg (by rw[h1];decide)]
   |false=>
    have h3:le x z=false:=by
     cases h3:le x z with
     |false=>rfl
     |true=>rw[h.trans y x z (h.flip h1) h3] at h2;cases h2
    rw[A0N y z,if_neg (by rw[h2];decide),A0N x z,if_neg (by rw[h3];decide),←i3,A0N x y,if_neg (by rw[h1];decide),A0N,if_neg (by rw[h2];decide)]
theorem B3e(h:Tp le)(a b c:List α):(a.merge b le).merge c le=a.merge (b.merge c le) le:=A4n h _ a b c (AD _)
theorem A4o{z:α}{a b:List α}:z∈a.merge b le↔z∈a∨z∈b:=by
 rw[(Di le).mem_iff,Af]
theorem A5K(a b:List α):(a.merge b le).length=a.length+b.length:=by
 have:=(Di le (xs:=a) (ys:=b)).length_eq
 rwa[AJ] at this
def A0m(le:α→α→Bool):List α→List α
 |[]=> []
 |x::l=> [x].merge (A0m le l) le
theorem B0q(x:α):A0m le [x]=[x]:=by rw[A0m,A0m,BG]
theorem A4p(h:Tp le):∀a b:List α,A0m le (a++b)=(A0m le a).merge (A0m le b) le
 |[],b=>by rw[Am,A0m,BN]
 |x::a,b=>by rw[Aj,A0m,A4p h a b,A0m,B3e h]
theorem B4D(h:Tp le)(l:List α)(x:α):A0m le (l++ [x])=(A0m le l).merge [x] le:=by rw[A4p h,B0q]
theorem A5f:∀l:List α,(A0m le l).Perm l
 |[]=>List.Perm.refl _
 |x::l=>by
  rw[A0m]
  refine(Di le).trans ?_
  exact List.Perm.cons x (A5f l)
theorem A1A(l:List α):(A0m le l).length=l.length:=(A5f l).length_eq
def SrtP(le:α→α→Bool)(l:List α):Prop:=l.Pairwise fun a b=>le a b=true
theorem B6n(h:Tp le){a b:List α}(ha:SrtP le a)(hb:SrtP le b):SrtP le (a.merge b le):=List.pairwise_merge h.trans h.total a b ha hb
theorem A4a(h:Tp le):∀l:List α,SrtP le (A0m le l)
 |[]=>List.Pairwise.nil
 |x::l=>by
  rw[A0m]
  exact B6n h (CW _ _) (A4a h l)
theorem A3L:∀(n:Nat) (u1 u2 v1 v2:List α),u1.length+v1.length≤n→(∀x∈u1,∀y∈v2,le x y=true)→(∀y∈v1,∀x∈u2,le x y=false)→
 (u1++u2).merge (v1++v2) le=u1.merge v1 le++u2.merge v2 le
 |_,[],u2,[],v2,_,_,_=>by simp
 |_,[],[],y::v1,v2,_,_,_=>by simp
 |0,[],x::u2,y::v1,v2,hn,_,_=>absurd hn EH
 |n+1,[],x::u2,y::v1,v2,hn,h1,h2=>by
  have h3:=h2 y EH x EH
  have ih:=A3L n [] (x::u2) v1 v2 (by simpa using hn) (fun _ h=>absurd h EH) (fun y' hy x' hx=>h2 y' (by simp[hy]) x' hx)
  rw[Am,BN] at ih
  rw[Am,Aj,A0N,if_neg (by rw[h3];decide),ih,BN];rfl
 |_,x::u1,u2,[],[],_,_,_=>by simp
 |0,x::u1,u2,[],y::v2,hn,_,_=>absurd hn EH
 |n+1,x::u1,u2,[],y::v2,hn,h1,h2=>by
  have h3:=h1 x EH y EH
  have ih:=A3L n u1 u2 [] (y::v2) (by simpa using hn) (fun x' hx y' hy=>h1 x' (by simp[hx]) y' hy) (fun _ h=>absurd h EH)
  rw[Am,BG] at ih
  rw[Am,Aj,A0N,if_pos h3,ih,BG];rfl
 |0,x::u1,u2,y::v1,v2,hn,_,_=>absurd hn EH
 |n+1,x::u1,u2,y::v1,v2,hn,h1,h2=>by
  simp only[AM] at hn
  rw[Aj,Aj,A0N,A0N]
  cases h3:le x y with
  |true=>
   have ih:=A3L n u1 u2 (y::v1) v2 (by simp only[AM];omega) (fun x' hx y' hy=>h1 x' (by simp[hx]) y' hy) h2
   rw[if_pos rfl,if_pos rfl,←Aj,ih];rfl
  |false=>
   have ih:=A3L n (x::u1) u2 v1 v2 (by simp only[AM];omega) h1 (fun y' hy x' hx=>h2 y' (by simp[hy]) x' hx)
   rw[if_neg EF,if_neg EF,←Aj,ih];rfl
theorem A6i{a b:List α}:SrtP le (a++b)↔SrtP le a∧SrtP le b∧∀x∈a,∀y∈b,le x y=true:=List.pairwise_append
theorem A5V(h:Tp le){u1 u2 v1 v2:List α}(hu:SrtP le (u1++u2))(hv:SrtP le (v1++v2))(h1:∀x y,u1.getLast? =some x→v2.head? =some y→le x y=true)(h2:∀x y,u2.head? =some x→v1.getLast? =some y→le x y=false):
 (u1++u2).merge (v1++v2) le=u1.merge v1 le++u2.merge v2 le:=by
 have lasts:∀{l:List α} {x y:α},SrtP le l→l.getLast? =some y→x∈l→le x y=true:=by
  intro l x y hl hy hx
  obtain⟨p,rfl⟩:=List.getLast?_eq_some_iff.1 hy
  rcases Af.1 hx with h3|h3
  ·exact(A6i.1 hl).2.2 x h3 y EH
  ·rw[Ax] at h3;subst h3
   have:=h.total x x
   simpa using this
 have heads:∀{l:List α} {x y:α},SrtP le l→l.head? =some x→y∈l→le x y=true:=by
  intro l x y hl hx hy
  cases l with
  |nil=>cases hy
  |cons z l=>
   simp only[List.head?_cons,Option.some.injEq] at hx
   subst hx
   rcases Br.1 hy with h3|h3
   ·subst h3
    have:=h.total y y
    simpa using this
   ·exact(CR.1 hl).1 y h3
 obtain⟨hu1,hu2,_⟩:=A6i.1 hu
 obtain⟨hv1,hv2,_⟩:=A6i.1 hv
 refine A3L _ u1 u2 v1 v2 (AD _) (fun x hx y hy=> ?_) (fun y hy x hx=> ?_)
 ·cases hl:u1.getLast? with
  |none=>rw[List.getLast?_eq_none_iff.1 hl] at hx;cases hx
  |some x'=>
   cases hh:v2.head? with
   |none=>rw[List.head?_eq_none_iff.1 hh] at hy;cases hy
   |some y'=>exact h.trans _ _ _ (lasts hu1 hl hx) (h.trans _ _ _ (h1 x' y' hl hh) (heads hv2 hh hy))
 ·cases hl:v1.getLast? with
  |none=>rw[List.getLast?_eq_none_iff.1 hl] at hy;cases hy
  |some y'=>
   cases hh:u2.head? with
   |none=>rw[List.head?_eq_none_iff.1 hh] at hx;cases hx
   |some x'=>
    have h3:=h2 x' y' hh hl
    cases h4:le x y with
    |false=>rfl
    |true=>
     rw[h.trans _ _ _ (heads hu2 hh hx) (h.trans _ _ _ h4 (lasts hv1 hl hy))] at h3
     cases h3
theorem B3f(h:Tp le){x:α}{v1 v2:List α}(hv:SrtP le (v1++v2))(h1:∀y,v2.head? =some y→le x y=true)(h2:∀y,v1.getLast? =some y→le x y=false):[x].merge (v1++v2) le=v1++x::v2:=by
 have:=A5V h (u1:=[]) (u2:=[x]) (v1:=v1) (v2:=v2) (CW _ _) hv (fun _ _ h=>by cases h) (fun a b ha hb=>by cases ha;exact h2 b hb)
 rw[Am,BN] at this
 rw[this]
 congr 1
 cases v2 with
 |nil=>exact BG _
 |cons y v2=>rw[A0N,if_pos (h1 y rfl),BN]
theorem A5W(h:Tp le){y:α}{u1 u2:List α}(hu:SrtP le (u1++u2))(h1:∀x,u1.getLast? =some x→le x y=true)(h2:∀x,u2.head? =some x→le x y=false):(u1++u2).merge [y] le=u1++y::u2:=by
 have:=A5V h (u1:=u1) (u2:=u2) (v1:=[]) (v2:=[y]) hu (CW _ _) (fun a b ha hb=>by cases hb;exact h1 a ha) (fun _ _ _ h=>by cases h)
 rw[Am,BG] at this
 rw[this]
 congr 1
 cases u2 with
 |nil=>exact BN _
 |cons x u2=>rw[A0N,if_neg (by rw[h2 x rfl];decide),BG]
def blks(le:α→α→Bool)(xs:List (List α)):List α:=(xs.map (A0m le)).flatten
theorem A8g:blks le []=[]:=rfl
theorem B0r(xs:List (List α))(x:List α):blks le (xs++ [x])=blks le xs++A0m le x:=by simp[blks]
theorem A3o(xs:List (List α))(x:List α):blks le (x::xs)=A0m le x++blks le xs:=by simp[blks]
theorem A3k{B:Nat}:∀{xs:List (List α)},(∀x∈xs,x.length=B)→xs.flatten.length=xs.length*B
 |[],_=>by simp
 |x::xs,h=>by
  rw[BD,AJ,A3k (fun y hy=>h y (by simp[hy])),h x EH,AM,Cl];omega
theorem A4K{z:α}{l:List α}:z∈A0m le l↔z∈l:=(A5f l).mem_iff
theorem A8h{z:α}:∀{xs:List (List α)},z∈blks le xs↔z∈xs.flatten
 |[]=>Iff.rfl
 |x::xs=>by rw[A3o,Af,BD,Af,A4K,A8h]
theorem B0s:A0m le ([]:List α)=[]:=rfl
theorem A6x(xs:List (List α)):(blks le xs).length=xs.flatten.length:=by
 induction xs with
 |nil=>rfl
 |cons x xs ih=>rw[A3o,AJ,ih,A1A,BD,AJ]
theorem B6o(h:Tp le){P u v C:List α}{a m b s e:Nat}(ha:a=P.length)(hm:m=a+u.length)(hb:b=m+v.length)(hu:SrtP le u)(hv:SrtP le v)(h1:a≤s)(h2:s≤m)(h3:m≤e)(h4:e≤b)(H1:∀x y,a<s→e<b→(P++(u++(v++C)))[s-1]? =some x→(P++(u++(v++C)))[e]? =some y→le x y=true)(H2:∀x y,s<m→m<e→(P++(u++(v++C)))[s]? =some x→(P++(u++(v++C)))[e-1]? =some y→le x y=false):
 ∃u1 u2 v1 v2,u=u1++u2∧v=v1++v2∧u1.length=s-a∧v1.length=e-m∧SrtP le u1∧SrtP le u2∧SrtP le v1∧SrtP le v2∧u.merge v le=u1.merge v1 le++u2.merge v2 le:=by
 have eu:u.take (s-a)++u.drop (s-a)=u:=BC _ _
 have ev:v.take (e-m)++v.drop (e-m)=v:=BC _ _
 have su:SrtP le (u.take (s-a)++u.drop (s-a)):=by rw[eu];exact hu
 have sv:SrtP le (v.take (e-m)++v.drop (e-m)):=by rw[ev];exact hv
 have gu:∀i,i<u.length→(P++(u++(v++C)))[a+i]? =u[i]? :=fun i hi=>by
  rw[BH EE,Bi EE];congr 1;omega
 have gv:∀i,i<v.length→(P++(u++(v++C)))[m+i]? =v[i]? :=fun i hi=>by
  rw[BH EE,BH EE,Bi EE];congr 1;omega
 have hlast:∀(l:List α) (k:Nat),0<k→k≤l.length→(l.take k).getLast? =l[k-1]? :=fun l k h0 hk=>by
  rw[Cg,AV,BX hk,Bq,if_pos EE]
 have hhead:∀(l:List α) (k:Nat),(l.drop k).head? =l[k]? :=fun l k=>by rw[DP]
 have hmm:=A5V h su sv (fun x y hx hy=>by
  rw[hhead] at hy
  have h6:=(Av.1 hy).1
  rcases Cs h1 with h5|h5
  ·rw[←h5,Ca,Bs] at hx;cases hx
  ·rw[hlast _ _ EE EE] at hx
   refine H1 x y h5 EE ?_ ?_
   ·rw[←hx,←gu _ EE];congr 1;omega
   ·rw[←hy,←gv _ h6];congr 1;omega) (fun x y hx hy=>by
  rw[hhead] at hx
  have h6:=(Av.1 hx).1
  rcases Cs h3 with h5|h5
  ·rw[←h5,Ca,Bs] at hy;cases hy
  ·rw[hlast _ _ EE EE] at hy
   refine H2 x y EE h5 ?_ ?_
   ·rw[←hx,←gu _ h6];congr 1;omega
   ·rw[←hy,←gv _ EE];congr 1;omega)
 rw[eu,ev] at hmm
 obtain⟨a1,a2,_⟩:=A6i.1 su
 obtain⟨b1,b2,_⟩:=A6i.1 sv
 exact⟨_,_,_,_,eu.symm,ev.symm,by rw[AV];omega,by rw[AV];omega,a1,a2,b1,b2,hmm⟩
end
end Go.Proofs.YtplgghjdidmcfaaGreatDoor
namespace Go.Proofs.YtplgghjdidmcfaaGreatDoor
open Go.RowKit
theorem A0l{w:World}{base:Nat}{e:TypeId}{size n c:Nat}{ad:Addr}{xs:List Value}(h:OwnO w base e size (.slice (some ad) n c) n xs){j:Nat}(hj:j<n*size)(u:Value):
 OwnO (w.setCell (ad.add j) u) base e size (.slice (some ad) n c) n (xs.set j u)∧w.frozen? (ad.add j)=false:=by
 rcases h.2 with⟨h1,_⟩|⟨g,o,cap,cur,h1,h2,h3,h4,h5,h6,h7⟩
 ·cases h1
 ·injection h1 with h1 _ h1c
  injection h1 with h1
  subst h1;subst h1c
  have hadd:(⟨g,o,none⟩:Addr).add j=⟨g,o+j,none⟩:=by unfold Addr.add;split<;>simp_all
  rw[hadd]
  refine⟨⟨by rw[Bj];exact h.1,.inr ⟨g,o,c,cur.setIfInBounds (o+j) u,rfl,h2,by simp[World.setCell,Array.getElem?_modify,h3],h4,h5,by simpa using h6, ?_⟩⟩,by simp[World.frozen?,h3]⟩
  rw[Array.toList_setIfInBounds,←h7]
  apply List.ext_getElem?
  intro i
  rw[Bq,BU,List.getElem?_set,List.getElem?_set,Bq,BU,AV,AZ]
  have hcl:cur.toList.length=cur.size:=by simp
  have hnc:n*size≤c*size:=BZ _ h4
  by_cases e:j=i
  ·subst e
   rw[if_pos rfl,if_pos hj,if_pos rfl,if_pos EE,if_pos EE]
  ·by_cases hi:i<n*size
   ·rw[if_pos hi,if_neg (show¬o+j=o+i by omega),if_neg e,if_pos hi]
   ·rw[if_neg hi,if_neg e,if_neg hi]
theorem A5L{w:World}{base:Nat}{e:TypeId}{size n c:Nat}{ad:Addr}{xs:List Value}(h:OwnO w base e size (.slice (some ad) n c) n xs):∀i j,i≠j→ad.add i≠ad.add j:=by
 rcases h.2 with⟨h1,_⟩|⟨g,o,cap,cur,h1,_⟩
 ·cases h1
 ·injection h1 with h1
  injection h1 with h1
  subst h1
  intro i j hij he
  have hadd:∀j,(⟨g,o,none⟩:Addr).add j=⟨g,o+j,none⟩:=fun j=>by unfold Addr.add;split<;>simp_all
  rw[hadd,hadd] at he
  injection he with _ he
  omega
theorem A0k(ad:Addr)(k:Nat):ad.add (k+1)=⟨(ad.add k).block,(ad.add k).off+1,none⟩:=by rw[←A2A];rfl
theorem A8R{w w':World}{ad:Addr}(h:w.grownBy w' (some ad.block))(p:Addr)(u:Value)(hp:p.block=ad.block):w.grownBy (w'.setCell p u) (some ad.block):=
 A0M h ⟨rfl,rfl,rfl,by simp[World.setCell],fun k _ hk=>Bp w' p u k (fun e=>hk (by rw[e,hp]))⟩
theorem A5w{α:Type}(A B C:List α)(x y:α){i j:Nat}(hi:i=A.length)(hj:j=A.length+1+B.length):
 (A++x::(B++y::C))[i]? =some x∧(A++x::(B++y::C))[j]? =some y∧((A++x::(B++y::C)).set i y).set j x=A++y::(B++x::C)∧((A++x::(B++y::C)).set j x).set i y=A++y::(B++x::C):=by
 subst hi;subst hj
 have e:∀z:α,A++z::(B++y::C)=(A++z::B)++y::C:=fun z=>by simp
 have hl:∀z:α,A.length+1+B.length=(A++z::B).length:=fun z=>by simp;omega
 have s1:∀(P:List α) (u v:α) (Q:List α),(P++u::Q).set P.length v=P++v::Q:=fun P u v Q=>by
  rw[Ce _ _ (AD _),Ca];rfl
 refine⟨by simp, ?_, ?_, ?_⟩
 ·rw[e x,hl x];simp
 ·rw[s1,e y,hl y,s1];simp
 ·rw[e x,hl x,s1]
  have:(A++x::B)++x::C=A++x::(B++x::C):=by simp
  rw[this,s1]
end Go.Proofs.YtplgghjdidmcfaaGreatDoor
