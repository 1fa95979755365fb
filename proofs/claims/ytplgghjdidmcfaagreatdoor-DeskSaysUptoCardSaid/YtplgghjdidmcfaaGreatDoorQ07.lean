/- Written anew, smaller, by a program of our own out of our texts. No condition of our own. -/
import Derived.Test.YtplgghjdidmcfaaGreatDoorQ06
import Derived.Test.YtplgghjdidmcfaaGreatDoorQ01
import Derived.Lib.Atoi
import Derived.Lib.IndexMore
import Derived.Lib.SlTrimSet
set_option maxRecDepth 100000
set_option maxHeartbeats 16000000
set_option linter.all false
namespace Go.Proofs.YtplgghjdidmcfaaGreatDoor
open Go.RowKit
theorem C1Y{P:Prop}(h:P:=by
 cases p with
 |none=>simp only[after] at ha;omega
 |some e=>simp only[after] at ha;have:=h7 e rfl;omega
 ):P:=h
end Go.Proofs.YtplgghjdidmcfaaGreatDoor
namespace Go.Proofs.YtplgghjdidmcfaaGreatDoor
theorem B1v:∀(v u a b:List UInt8),v≤u→¬v<+:u→v++a<u++b
 |[],_,_,_,_,h=>absurd List.nil_prefix h
 |x::v,[],a,b,hle,_=>absurd hle (by rw[List.not_le];simp)
 |x::v,y::u,a,b,hle,hnp=>by
  rw[Aj,Aj,Bb]
  rw[List.cons_le_cons_iff] at hle
  rcases hle with h1|⟨rfl,h1⟩
  ·exact .inl h1
  ·exact .inr ⟨rfl,B1v v u a b h1 fun hp=>hnp (List.cons_prefix_cons.2 ⟨rfl,hp⟩)⟩
theorem A9V:∀{a b c d:List UInt8},a.length=b.length→a<b→a++c<b++d
 |[],[],_,_,_,h=>absurd h EH
 |[],_::_,_,_,h,_=>by simp at h
 |_::_,[],_,_,h,_=>by simp at h
 |x::a,y::b,c,d,hl,h=>by
  rw[Aj,Aj,Bb]
  rcases Bb.1 h with h1|⟨rfl,h1⟩
  ·exact .inl h1
  ·exact .inr ⟨rfl,A9V (by simpa using hl) h1⟩
theorem A9W{p u:List UInt8}(h:p<+:u):p≤u:=by
 obtain⟨z,rfl⟩:=h
 rw[←Dg]
 intro hlt
 have:=A7K (p++z) p.length
 rw[Bz] at this
 exact this hlt
theorem B7E{s x p:List UInt8}(h:lynB s=true)(hs:s=x++p)(hx:x≠ [])(hp:p≠ []):s<p:=by
 obtain⟨_,hall⟩:=A6n.1 h
 have hxl:0<x.length:=BO.2 hx
 have hpl:0<p.length:=BO.2 hp
 have hsl:s.length=x.length+p.length:=by rw[hs,AJ]
 rw[←List.not_le]
 intro hle
 have t1:turn s x.length=p++x:=by rw[turn,hs,DY,Bz]
 obtain⟨n1,n2⟩:=hall x.length hxl EE
 rw[t1] at n1 n2
 by_cases hpre:p<+:s
 ·obtain⟨y,hy⟩:=hpre
  have hyl:y.length=x.length:=by
   have:=congrArg List.length hy
   rw[AJ] at this
   omega
  have hxy:¬x<y:=fun h=>n1 (by rw[←hy];exact A7Y h)
  have hne:x≠y:=fun h=>n2 (by rw[←hy,h])
  have hyx:y<x:=by
   rcases List.le_iff_lt_or_eq.1 (Dg.1 hxy) with h|h
   ·exact h
   ·exact absurd h.symm hne
  have t2:turn s p.length=y++p:=by rw[turn,←hy,DY,Bz]
  obtain⟨m1,_⟩:=hall p.length hpl EE
  rw[t2] at m1
  apply m1
  rw[hs]
  exact A9V hyl hyx
 ·apply n1
  have:=B1v p s x [] hle hpre
  rwa[Aq] at this
theorem B3t:∀(out:List (List UInt8)) (n:Nat),0<n→n≤out.flatten.length→(∀w∈out,w≠ [])→∃j,∃h:j<out.length,∃p,p≠ []∧p<+:out[j]∧out.flatten.take n=(out.take j).flatten++p
 |[],n,h0,h1,_=>by simp at h1;omega
 |w::r,n,h0,h1,hw=>by
  have hw0:=hw w EH
  have hwl:0<w.length:=BO.2 hw0
  rw[BD,AJ] at h1
  by_cases hn:n≤w.length
  ·refine⟨0,by simp,w.take n,fun h=> ?_,List.take_prefix _ _, ?_⟩
   ·have:=congrArg List.length h
    rw[AV,BK] at this
    omega
   ·rw[BD,Cu hn];rfl
  ·obtain⟨j,hj,p,hp,hpre,he⟩:=B3t r (n-w.length) EE EE (fun x hx=>hw x (by simp[hx]))
   refine⟨j+1,by simp;omega,p,hp,by simpa using hpre, ?_⟩
   rw[BD,Co,AX EE,he]
   simp
theorem SpAt.ne{s:List UInt8}{out:List (List UInt8)}{n:Nat}(h:SpAt s out n):∀w∈out,w≠ []:=fun w hw e=>by
 have:=(h.ly w hw).1
 rw[e] at this
 simp at this
theorem A5R{s u:List UInt8}{r:List (List UInt8)}(h:SpAt s (u::r) s.length){n:Nat}(h1:u.length<n)(h2:n≤s.length):lynB (s.take n)=false:=by
 rw[Bool.eq_false_iff]
 intro hb
 have hfl:(u::r).flatten=s:=by rw[h.fl,BJ]
 obtain⟨j,hj,p,hp,hpre,he⟩:=B3t (u::r) n EE (by rw[hfl];exact h2) h.ne
 rw[hfl] at he
 have hu0:u≠ []:=h.ne u EH
 have hj0:0<j:=by
  rcases BP j with rfl|h0
  ·exfalso
   have hl:=congrArg List.length he
   have:=hpre.length_le
   simp at hl this
   omega
  ·exact h0
 have hx:((u::r).take j).flatten≠ []:=by
  obtain⟨i,rfl⟩:∃i,j=i+1:=⟨j-1,by omega⟩
  rw[CM,BD]
  simp[hu0]
 have k1:=B7E hb he hx hp
 have k2:p≤(u::r)[j]:=A9W hpre
 have k3:=B1l h.ni j hj EH
 have k4:(u::r)[0]≤s.take n:=by
  refine A9W ?_
  show u<+:s.take n
  refine List.prefix_take_iff.2 ⟨⟨r.flatten,by rw[←hfl];rfl⟩,by omega⟩
 exact List.not_le.2 k1 (List.le_trans k2 (List.le_trans k3 k4))
theorem SpAt.tail{s u:List UInt8}{r:List (List UInt8)}(h:SpAt s (u::r) s.length):SpAt r.flatten r r.flatten.length:=
 ⟨AD _,by rw[BJ],fun w hw=>h.ly w (by simp[hw]),fun i hi=>by
  have:=h.ni (i+1) (by simp;omega)
  simpa using this⟩
theorem SpAt.first{s u:List UInt8}{r:List (List UInt8)}(h:SpAt s (u::r) s.length):s=u++r.flatten∧lynB u=true:=by
 refine⟨?_,B8B (h.ly u EH)⟩
 have:=h.fl
 rw[BJ] at this
 rw[←this];rfl
theorem SpAt.one:∀{a b:List (List UInt8)} {s:List UInt8},SpAt s a s.length→SpAt s b s.length→a=b
 |[],[],_,_,_=>rfl
 |[],v::b,s,ha,hb=>by
  exfalso
  have:=ha.fl
  rw[BJ] at this
  have h2:=hb.first.1
  rw[←this] at h2
  have:=hb.ne v EH
  simp at h2
  exact this h2.1
 |u::a,[],s,ha,hb=>by
  exfalso
  have:=hb.fl
  rw[BJ] at this
  have h2:=ha.first.1
  rw[←this] at h2
  have:=ha.ne u EH
  simp at h2
  exact this h2.1
 |u::a,v::b,s,ha,hb=>by
  obtain⟨e1,l1⟩:=ha.first
  obtain⟨e2,l2⟩:=hb.first
  have hul:u.length≤s.length:=by rw[e1];simp
  have hvl:v.length≤s.length:=by rw[e2];simp
  have t1:s.take u.length=u:=by
   conv=>lhs;rw[e1]
   rw[Bz]
  have t2:s.take v.length=v:=by
   conv=>lhs;rw[e2]
   rw[Bz]
  have hl:u.length=v.length:=by
   rcases De u.length v.length with h|h|h
   ·have:=A5R ha h hvl
    rw[t2,l2] at this;cases this
   ·exact h
   ·have:=A5R hb h hul
    rw[t1,l1] at this;cases this
  have huv:u=v:=by rw[←t1,←t2,hl]
  subst huv
  have hf:a.flatten=b.flatten:=List.append_cancel_left (e1.symm.trans e2)
  have hb':=hb.tail
  rw[←hf] at hb'
  rw[SpAt.one ha.tail hb']
theorem sp_ex(s:List UInt8)(h:s.length≤200):∃out,SpAt s out s.length:=by
 obtain⟨e,w',_,⟨v,out,_,h1,_⟩,_⟩:=A6R (S s) (by rw[A0b];exact h) default []
 refine⟨out, ?_⟩
 rw[L_S,A0b] at h1
 exact h1
open Classical in
noncomputable def lynF (s:List UInt8):List (List UInt8):=if h:∃out,SpAt s out s.length then h.choose else []
theorem A7z{s:List UInt8}(h:s.length≤200):SpAt s (lynF s) s.length:=by
 unfold lynF
 rw[dif_pos (sp_ex s h)]
 exact(sp_ex s h).choose_spec
structure Ed where
 at_:Int
 del:Int
 ins:List UInt8
deriving DecidableEq,Inhabited
def A3w(n:Int)(p:Option Int)(x:Ed):Int:=
 if x.at_<0∨x.del<0∨n<x.at_∨n<x.at_+x.del then 1 else if 40<x.ins.length then 2 else if x.del=0∧x.ins.length=0 then 5 else if∃e,p=some e∧x.at_≤e then 6 else 0
def edGo(n:Int):Option Int→Int→List Ed→Int
 |_,size,[]=>if 200<size then 11 else 0
 |p,size,x::r=>if A3w n p x=0 then edGo n (some (x.at_+x.del)) (size+(x.ins.length-x.del)) r else A3w n p x
def A0n(n:Int)(l:List Ed):Int:=if n<0∨200<n then 1 else if 20<l.length then 2 else edGo n none n l
def grows:List Ed→Int
 |[]=>0
 |x::r=>(x.ins.length-x.del)+grows r
theorem A5o(a b:List Ed):grows (a++b)=grows a+grows b:=by
 induction a with
 |nil=>simp[grows]
 |cons x a ih=>simp[grows,ih];omega
def A1Y(l:List Ed):Option Int:=l.getLast?.map fun x=>x.at_+x.del
theorem B5y(n:Int)(l:List Ed)(k:Nat)(hk:k<l.length)(h:edGo n none n l=edGo n (A1Y (l.take k)) (n+grows (l.take k)) (l.drop k))(h0:A3w n (A1Y (l.take k)) l[k]=0):
 edGo n none n l=edGo n (A1Y (l.take (k+1))) (n+grows (l.take (k+1))) (l.drop (k+1)):=by
 rw[h,Ag hk,edGo,if_pos h0,Aa hk,A5o]
 simp only[grows,A1Y,List.getLast?_append,List.getLast?_singleton,Option.some_or,CC]
 congr 1;omega
theorem B7F(n:Int)(l:List Ed)(k:Nat)(hk:k<l.length)(h:edGo n none n l=edGo n (A1Y (l.take k)) (n+grows (l.take k)) (l.drop k))(h0:A3w n (A1Y (l.take k)) l[k]≠0):
 edGo n none n l=A3w n (A1Y (l.take k)) l[k]:=by
 rw[h,Ag hk,edGo,if_neg h0]
theorem B7G(n:Int)(l:List Ed)(h:edGo n none n l=edGo n (A1Y (l.take l.length)) (n+grows (l.take l.length)) (l.drop l.length)):edGo n none n l=if 200<n+grows l then 11 else 0:=by
 rw[h,DE,BJ,edGo]
theorem A6S(l:List Ed)(k:Nat)(hk:k<l.length):A1Y (l.take (k+1))=some (l[k].at_+l[k].del):=by
 unfold A1Y
 rw[Aa hk,List.getLast?_append]
 simp
inductive Chain (n:Int):Option Int→List Ed→Prop
 |nil (p):Chain n p []
 |cons (p x r):A3w n p x=0→Chain n (some (x.at_+x.del)) r→Chain n p (x::r)
theorem B5z{n:Int}{l:List Ed}:∀{p:Option Int} {s:Int},edGo n p s l=0↔Chain n p l∧s+grows l≤200:=by
 induction l with
 |nil=>
  intro p s
  simp only[edGo,grows]
  constructor
  ·intro h;exact⟨.nil _,by split at h<;>omega⟩
  ·rintro⟨_,h⟩;rw[if_neg EE]
 |cons x r ih=>
  intro p s
  simp only[edGo,grows]
  by_cases h:A3w n p x=0
  ·rw[if_pos h,ih]
   constructor
   ·rintro⟨a,b⟩;exact⟨.cons _ _ _ h a,by omega⟩
   ·rintro⟨a,b⟩;cases a;exact⟨by assumption,by omega⟩
  ·rw[if_neg h]
   constructor
   ·intro h';exact absurd h' h
   ·rintro⟨a,b⟩;cases a;exact absurd (by assumption) h
theorem A2o{n:Int}{l:List Ed}:A0n n l=0↔0≤n∧n≤200∧l.length≤20∧Chain n none l∧n+grows l≤200:=by
 unfold A0n
 by_cases h1:n<0∨200<n
 ·rw[if_pos h1]
  constructor
  ·intro h;cases h
  ·rintro⟨_,_,_⟩;omega
 ·rw[if_neg h1]
  by_cases h2:20<l.length
  ·rw[if_pos h2]
   constructor
   ·intro h;cases h
   ·rintro⟨_,_,_,_⟩;omega
  ·rw[if_neg h2,B5z]
   constructor
   ·rintro⟨a,b⟩;exact⟨by omega,by omega,by omega,a,b⟩
   ·rintro⟨_,_,_,a,b⟩;exact⟨a,b⟩
theorem A3x{n:Int}{p:Option Int}{x:Ed}(h:A3w n p x=0):0≤x.at_∧0≤x.del∧x.at_≤n∧x.at_+x.del≤n∧x.ins.length≤40∧¬(x.del=0∧x.ins.length=0)∧∀e,p=some e→e<x.at_:=by
 unfold A3w at h
 by_cases h1:x.at_<0∨x.del<0∨n<x.at_∨n<x.at_+x.del
 ·rw[if_pos h1] at h;cases h
 ·rw[if_neg h1] at h
  by_cases h2:40<x.ins.length
  ·rw[if_pos h2] at h;cases h
  ·rw[if_neg h2] at h
   by_cases h3:x.del=0∧x.ins.length=0
   ·rw[if_pos h3] at h;cases h
   ·rw[if_neg h3] at h
    by_cases h4:∃e,p=some e∧x.at_≤e
    ·rw[if_pos h4] at h;cases h
    ·refine⟨by omega,by omega,by omega,by omega,by omega,h3,fun e he=> ?_⟩
     exact Int.lt_of_not_ge fun hh=>h4 ⟨e,he,hh⟩
theorem Chain.mem{n:Int}{p:Option Int}{l:List Ed}(h:Chain n p l):∀x∈l,0≤x.at_∧0≤x.del∧x.at_+x.del≤n∧x.ins.length≤40∧¬(x.del=0∧x.ins.length=0)∧∀e,p=some e→e<x.at_:=by
 induction h with
 |nil p=>intro x hx;cases hx
 |cons p y r h0 h ih=>
  intro x hx
  have h1:=A3x h0
  rcases Br.1 hx with rfl|hx
  ·exact⟨h1.1,h1.2.1,h1.2.2.2.1,h1.2.2.2.2.1,h1.2.2.2.2.2.1,h1.2.2.2.2.2.2⟩
  ·obtain⟨a,b,c,d,e,f⟩:=ih x hx
   refine⟨a,b,c,d,e,fun q hq=> ?_⟩
   have:=h1.2.2.2.2.2.2 q hq
   have:=f _ rfl
   omega
theorem Chain.grows_le{n:Int}{p:Option Int}{l:List Ed}(h:Chain n p l): -(n:Int)*l.length≤grows l∧grows l≤40*l.length:=by
 induction h with
 |nil p=>simp[grows]
 |cons p x r h0 h ih=>
  have h1:=A3x h0
  simp only[grows,AM]
  have e: -n*((r.length+1:Nat):Int)= -n*r.length-n:=by
   rw[Int.natCast_add,Int.mul_add];simp;omega
  rw[e]
  have e2:((r.length+1:Nat):Int)=(r.length:Int)+1:=EE
  constructor<;>omega
def edTo(s:List UInt8):Nat→List Ed→List UInt8
 |p,[]=>s.drop p
 |p,x::r=>(s.drop p).take (x.at_.toNat-p)++x.ins++edTo s (x.at_+x.del).toNat r
def A0C(s:List UInt8):List Ed→List UInt8
 |[]=>s
 |x::r=>(A0C s r).take x.at_.toNat++x.ins++(A0C s r).drop (x.at_+x.del).toNat
def after(p:Nat):Option Int→Prop
 |none=>p=0
 |some e=>e=(p:Int)
theorem A9X{n:Nat}{s:List UInt8}(hs:s.length=n){l:List Ed}:∀{p:Option Int} {k:Nat},Chain n p l→after k p→k≤n→A0C s l=s.take k++edTo s k l:=by
 induction l with
 |nil=>intro p k _ _ _;simp[A0C,edTo]
 |cons x r ih=>
  intro p k hc ha hk
  cases hc with
  |cons _ _ _ h0 h=>
   obtain⟨h1,h2,h3,h4,h5,h6,h7⟩:=A3x h0
   have hk2:(k:Int)≤x.at_:=by
    exact C1Y
   obtain⟨a,ha'⟩:=BV h1
   obtain⟨d,hd'⟩:=BV h2
   have e1:=ih (p:=some (x.at_+x.del)) (k:=a+d) h (by simp only[after];omega) EE
   simp only[A0C,edTo]
   rw[e1,ha',hd']
   have t1:((a:Int)+(d:Int)).toNat=a+d:=EE
   have t2:((a:Int)).toNat=a:=EE
   rw[t1,t2]
   have l1:(s.take (a+d)).length=a+d:=by rw[AV];omega
   rw[Cu EE,Cv EE,DW,BX EE]
   have e3:s.take a=s.take k++(s.drop k).take (a-k):=by
    rw[←List.take_add];congr 1;omega
   have e4:(s.take (a+d)).drop (a+d)=[]:=Au EE
   rw[e3,e4]
   simp
theorem A5B{s:List UInt8}{l:List Ed}(h:A0n s.length l=0):A0C s l=edTo s 0 l:=by
 obtain⟨_,_,_,h,_⟩:=A2o.1 h
 have:=A9X rfl h (k:=0) rfl (AS _)
 simpa using this
theorem A4z{n:Nat}{s:List UInt8}(hs:s.length=n){l:List Ed}:∀{p:Option Int} {k:Nat},Chain n p l→after k p→k≤n→((edTo s k l).length:Int)=n-k+grows l:=by
 induction l with
 |nil=>intro p k _ _ _;simp[edTo,grows];omega
 |cons x r ih=>
  intro p k hc ha hk
  cases hc with
  |cons _ _ _ h0 h=>
   obtain⟨h1,h2,h3,h4,h5,h6,h7⟩:=A3x h0
   have hk2:(k:Int)≤x.at_:=by
    exact C1Y
   have e1:=ih (p:=some (x.at_+x.del)) (k:=(x.at_+x.del).toNat) h (by simp only[after];omega) EE
   simp only[edTo,grows,AJ,AV,AZ]
   omega
def A1I:List UInt8→UInt8→Option (List UInt8×List UInt8)
 |[],_=>none
 |x::s,c=>if x=c then some ([],s) else(A1I s c).map fun p=>(x::p.1,p.2)
theorem B4h{c:UInt8}:∀{s:List UInt8},(∀b∈s,b≠c)→A1I s c=none:=by
 intro s
 induction s with
 |nil=>intro _;rfl
 |cons x s ih=>
  intro h
  rw[A1I,if_neg (h x Bu),ih fun b hb=>h b (By _ hb)];rfl
theorem B1w{c:UInt8}:∀{a r:List UInt8},(∀b∈a,b≠c)→A1I (a++c::r) c=some (a,r):=by
 intro a
 induction a with
 |nil=>intro r _;rw[Am,A1I,if_pos rfl]
 |cons x a ih=>
  intro r h
  rw[Aj,A1I,if_neg (h x Bu),ih fun b hb=>h b (By _ hb)];rfl
theorem A4W{c:UInt8}:∀{s a r:List UInt8},A1I s c=some (a,r)→s=a++c::r∧∀b∈a,b≠c:=by
 intro s
 induction s with
 |nil=>intro a r h;cases h
 |cons x s ih=>
  intro a r h
  rw[A1I] at h
  split at h
  ·rename_i hx
   simp only[Option.some.injEq,Prod.mk.injEq] at h
   obtain⟨rfl,rfl⟩:=h
   subst hx
   exact⟨rfl,by simp⟩
  ·rename_i hx
   cases hc:A1I s c with
   |none=>rw[hc] at h;cases h
   |some p=>
    rw[hc] at h
    simp only[CC,Option.some.injEq,Prod.mk.injEq] at h
    obtain⟨rfl,rfl⟩:=h
    obtain⟨h1,h2⟩:=ih hc
    exact⟨by rw[Aj,←h1],fun b hb=>by
     rcases Br.1 hb with rfl|hb
     ·exact hx
     ·exact h2 b hb⟩
theorem A9Y{c:UInt8}{s a r:List UInt8}(h:A1I s c=some (a,r)):r.length<s.length:=by
 rw[(A4W h).1,AJ,AM];omega
theorem B4i(c:UInt8):∀s:List UInt8,Lib.index s [c]=match A1I s c with
 |some p=>(p.1.length:Int)
 |none=> -1:=by
 intro s
 induction s with
 |nil=>rfl
 |cons x s ih=>
  rw[Lib.index,A1I]
  by_cases h:x=c
  ·subst h
   simp
  ·have e:List.isPrefixOf [c] (x::s)=false:=by
    simp only[List.isPrefixOf,Bool.and_eq_false_iff,AH]
    exact .inl fun e=>h e.symm
   rw[e,if_neg h]
   simp only[CQ,CD,ih]
   cases A1I s c with
   |none=>rfl
   |some p=>
    simp only[CC,AM]
    rw[if_neg (by first|(simp;done)|(simp;omega)),Int.natCast_add]
    rfl
theorem B8F(s:List UInt8)(c:UInt8):Lib.cut s [c]=match A1I s c with
 |some p=>(p.1,p.2,true)
 |none=>(s,[],false):=by
 unfold Lib.cut
 rw[B4i]
 cases h:A1I s c with
 |none=>rfl
 |some p=>
  obtain⟨a,r⟩:=p
  simp only
  rw[if_pos EE,(A4W h).1]
  simp
theorem A9Z{c:UInt8}{s a r:List UInt8}{k:Nat}(hn:∀b∈s.take k,b≠c)(h:A1I s c=some (a,r)):∃q,a=s.take k++q:=by
 obtain⟨h1,h2⟩:=A4W h
 have hka:k≤a.length:=by
  rcases CT a.length k with h3|h3
  ·exfalso
   refine hn c ?_ rfl
   rw[h1,Co,Af]
   right
   rw[show k-a.length=(k-a.length-1)+1 by omega,CM]
   exact Bu
  ·exact h3
 refine⟨a.drop k, ?_⟩
 rw[h1,Cu hka,BC]
theorem A9x:∀(x y:List UInt8) (acc:Nat),Lib.decFrom acc (x++y)=match Lib.decFrom acc x with
 |some v=>Lib.decFrom v y
 |none=>none:=by
 intro x
 induction x with
 |nil=>intro y acc;rfl
 |cons b x ih=>
  intro y acc
  rw[Aj,Lib.decFrom,Lib.decFrom]
  cases Lib.digitVal b with
  |none=>rfl
  |some d=>exact ih y _
theorem B5A:∀(x:List UInt8) (acc v:Nat),Lib.decFrom acc x=some v→acc*10^x.length≤v:=by
 intro x
 induction x with
 |nil=>intro acc v h;simp[Lib.decFrom] at h;subst h;simp
 |cons b x ih=>
  intro acc v h
  rw[Lib.decFrom] at h
  cases hd:Lib.digitVal b with
  |none=>rw[hd] at h;cases h
  |some d=>
   rw[hd] at h
   have:=ih _ _ h
   rw[AM,Dq,Ck (10^x.length) 10,←Nat.mul_assoc]
   exact AQ (BZ _ EE) this
theorem dec_up{x:List UInt8}{acc v:Nat}(h:Lib.decFrom acc x=some v):acc≤v:=
 AQ (CK _ (Nat.pow_pos EE)) (B5A _ _ _ h)
def A4X(a:List UInt8):Bool:=decide (a.length≠0∧a.length≤3∧¬(a.getD 0 0=48∧1<a.length))
def A0X(a:List UInt8):Option Nat:=if A4X a then Lib.decFrom 0 a else none
def A1k(s:List UInt8)(c:UInt8):Option (Nat×List UInt8):=match A1I s c with
 |some p=>(A0X p.1).map fun v=>(v,p.2)
 |none=>none
def A0I(s:List UInt8)(c:UInt8)(most:Nat):Option (Nat×List UInt8):=match A1k s c with
 |some p=>if p.1≤most then some p else none
 |none=>none
theorem dig48{b:UInt8}{d:Nat}(h:Lib.digitVal b=some d):d=b.toNat-48∧48≤b.toNat∧b.toNat≤57:=by
 unfold Lib.digitVal at h
 split at h
 ·rename_i hb
  cases h;exact⟨rfl,hb⟩
 ·cases h
theorem B2S{a:List UInt8}{n:Nat}(h:Lib.decFrom 0 a=some n)(hn:n≤999):A4X a=(decide (0<a.length)&&(decide (a.getD 0 0≠48)||decide (a.length=1))):=by
 cases a with
 |nil=>rfl
 |cons b a=>
  rw[Lib.decFrom] at h
  cases hd:Lib.digitVal b with
  |none=>rw[hd] at h;cases h
  |some d=>
   rw[hd] at h
   obtain⟨e,h1,h2⟩:=dig48 hd
   have h3:=B5A _ _ _ h
   unfold A4X
   simp only[AM,Ae]
   by_cases h48:b=48
   ·subst h48
    cases a with
    |nil=>decide
    |cons y a=>
     rw[BR]
     simp
   ·have hb:b.toNat≠48:=fun e=>h48 (Bo.1 (e.trans (rfl:48=(48:UInt8).toNat)))
    have hd1:1≤d:=EE
    have hl:a.length≤2:=by
     rcases CT 2 a.length with h4|h4
     ·exfalso
      have h5:10^3≤10^a.length:=Ch EE h4
      have h6:1*10^a.length≤(0*10+d)*10^a.length:=BZ _ EE
      omega
     ·exact h4
    rw[BR]
    simp[h48]
    omega
theorem B8G{s:List UInt8}{c:UInt8}{most k n:Nat}(hk:k<s.length)(hn:∀b∈s.take k,b≠c)(hd:Lib.decFrom 0 (s.take k)=some n)(hm:n≤most)(hm9:most≤999)(hc:s.getD k 0=c):
 A0I s c most=if(decide (0<k)&&(decide (s.getD 0 0≠48)||decide (k=1)))=true then some (n,s.drop (k+1)) else none:=by
 have e:s=s.take k++c::s.drop (k+1):=by
  conv=>lhs;rw[←BC k s]
  rw[Ag hk]
  congr 2
  rw[←hc,AK,AL hk];rfl
 have h1:A1I s c=some (s.take k,s.drop (k+1)):=by
  conv=>lhs;rw[e]
  exact B1w hn
 have h2:=B2S hd EE
 have h3:(s.take k).length=k:=by rw[AV];omega
 unfold A0I A1k
 rw[h1]
 simp only
 unfold A0X
 rw[h2,h3]
 cases BP k with
 |inl h0=>subst h0;simp
 |inr h0=>
  have h4:(s.take k).getD 0 0=s.getD 0 0:=by
   rw[AK,AK,Bq,if_pos h0]
  rw[h4]
  by_cases hf:(decide (0<k)&&(decide (s.getD 0 0≠48)||decide (k=1)))=true
  ·rw[if_pos hf,if_pos hf,hd];simp only[CC];rw[if_pos hm]
  ·rw[if_neg hf,if_neg hf];rfl
theorem B7H{s:List UInt8}{c:UInt8}{most k:Nat}(hn:∀b∈s.take (k+1),b≠c)(hd:Lib.decFrom 0 (s.take (k+1))=none):A0I s c most=none:=by
 unfold A0I A1k
 cases h:A1I s c with
 |none=>rfl
 |some p=>
  obtain⟨a,r⟩:=p
  obtain⟨q,rfl⟩:=A9Z hn h
  simp only
  have:A0X (s.take (k+1)++q)=none:=by
   unfold A0X
   rw[A9x,hd];split<;>rfl
  rw[this];rfl
theorem B7I{s:List UInt8}{c:UInt8}{most k n:Nat}(hn:∀b∈s.take (k+1),b≠c)(hd:Lib.decFrom 0 (s.take (k+1))=some n)(hm:most<n):A0I s c most=none:=by
 unfold A0I A1k
 cases h:A1I s c with
 |none=>rfl
 |some p=>
  obtain⟨a,r⟩:=p
  obtain⟨q,rfl⟩:=A9Z hn h
  simp only
  cases hv:A0X (s.take (k+1)++q) with
  |none=>rfl
  |some v=>
   unfold A0X at hv
   split at hv
   ·rw[A9x,hd] at hv
    have:=dec_up hv
    simp only[CC]
    rw[if_neg EE]
   ·cases hv
theorem B7J{s:List UInt8}{c:UInt8}{most:Nat}(hn:∀b∈s,b≠c):A0I s c most=none:=by
 unfold A0I A1k
 rw[B4h hn]
def A0A(x:Ed):Int:=if x.at_<0∨200<x.at_∨x.del<0∨200<x.del then 1 else if 40<x.ins.length then 2 else 0
def A4Y:List Ed→Int
 |[]=>0
 |x::l=>if A0A x=0 then A4Y l else A0A x
def A1d(l:List Ed):Int:=if 20<l.length then 2 else A4Y l
theorem A8t{l:List Ed}{k:Nat}(h:∀i,i<k→∀x,l[i]? =some x→A0A x=0):A4Y l=A4Y (l.drop k):=by
 induction l generalizing k with
 |nil=>simp
 |cons x l ih=>
  cases k with
  |zero=>rfl
  |succ k=>
   rw[List.drop_succ_cons,A4Y,if_pos (h 0 EE x rfl)]
   exact ih fun i hi y hy=>h (i+1) EE y (by simpa using hy)
theorem B4j{l:List Ed}:A4Y l=0↔∀x∈l,A0A x=0:=by
 induction l with
 |nil=>simp[A4Y]
 |cons x l ih=>
  rw[A4Y]
  by_cases h:A0A x=0
  ·rw[if_pos h,ih];simp[h]
  ·rw[if_neg h];simp[h]
theorem A1c{l:List Ed}:A1d l=0↔l.length≤20∧∀x∈l,A0A x=0:=by
 unfold A1d
 by_cases h:20<l.length
 ·rw[if_pos h]
  constructor
  ·intro h2;cases h2
  ·intro h2;omega
 ·rw[if_neg h,B4j]
  exact⟨fun h2=>⟨by omega,h2⟩,fun h2=>h2.2⟩
def A2F(r:List UInt8)(a d n:Nat):Option (Ed×List UInt8):=if n<r.length∧r.getD n 0=59 then some (⟨(a:Int),(d:Int),r.take n⟩,r.drop (n+1)) else none
def A1G(s:List UInt8):Option (Ed×List UInt8):=match A1k s 32 with
 |none=>none
 |some (a,r1)=>match A1k r1 32 with
  |none=>none
  |some (d,r2)=>match A1k r2 58 with
   |none=>none
   |some (n,r3)=>A2F r3 a d n
def A2W(s:List UInt8):Option (Ed×List UInt8):=match A0I s 32 200 with
 |none=>none
 |some (a,r1)=>match A0I r1 32 200 with
  |none=>none
  |some (d,r2)=>match A0I r2 58 40 with
   |none=>none
   |some (n,r3)=>A2F r3 a d n
theorem A8u{r r':List UInt8}{a d n:Nat}{x:Ed}(h:A2F r a d n=some (x,r')):x=⟨(a:Int),(d:Int),r.take n⟩∧n<r.length∧r'=r.drop (n+1):=by
 unfold A2F at h
 split at h
 ·rename_i h1
  simp only[Option.some.injEq,Prod.mk.injEq] at h
  exact⟨h.1.symm,h1.1,h.2.symm⟩
 ·cases h
def fits(o:Option (Ed×List UInt8)):Option (Ed×List UInt8):=match o with
 |some p=>if A0A p.1=0 then some p else none
 |none=>none
theorem B4k(r:List UInt8)(a d n:Nat):fits (A2F r a d n)=if a≤200∧d≤200∧n≤40 then A2F r a d n else none:=by
 cases h:A2F r a d n with
 |none=>simp[fits]
 |some p=>
  obtain⟨x,r'⟩:=p
  obtain⟨h1,h2,_⟩:=A8u h
  have h3:(r.take n).length=n:=by rw[AV];omega
  unfold fits
  simp only
  subst h1
  by_cases hh:a≤200∧d≤200∧n≤40
  ·rw[if_pos hh,if_pos]
   unfold A0A
   rw[h3,if_neg (by simp only;omega),if_neg EE]
  ·rw[if_neg hh,if_neg]
   unfold A0A
   rw[h3]
   intro h4
   split at h4
   ·cases h4
   ·split at h4
    ·cases h4
    ·rename_i h5 h6
     simp only at h5
     omega
theorem B5B(s:List UInt8):A2W s=fits (A1G s):=by
 unfold A2W A1G A0I
 cases A1k s 32 with
 |none=>rfl
 |some p1=>
  obtain⟨a,r1⟩:=p1
  simp only
  cases h2:A1k r1 32 with
  |none=>
   simp only[fits]
   by_cases ha:a≤200
   ·rw[if_pos ha];simp only[h2]
   ·rw[if_neg ha]
  |some p2=>
   obtain⟨d,r2⟩:=p2
   simp only
   cases h3:A1k r2 58 with
   |none=>
    simp only[fits]
    by_cases ha:a≤200
    ·rw[if_pos ha];simp only[h2]
     by_cases hd:d≤200
     ·rw[if_pos hd];simp only[h3]
     ·rw[if_neg hd]
    ·rw[if_neg ha]
   |some p3=>
    obtain⟨n,r3⟩:=p3
    simp only
    rw[B4k]
    by_cases ha:a≤200
    ·rw[if_pos ha];simp only[h2]
     by_cases hd:d≤200
     ·rw[if_pos hd];simp only[h3]
      by_cases hn:n≤40
      ·rw[if_pos hn,if_pos ⟨ha,hd,hn⟩]
      ·rw[if_neg hn,if_neg (fun h=>hn h.2.2)]
     ·rw[if_neg hd,if_neg (fun h=>hd h.2.1)]
    ·rw[if_neg ha,if_neg (fun h=>ha h.1)]
theorem A6s{s r:List UInt8}{c:UInt8}{v:Nat}(h:A1k s c=some (v,r)):r.length<s.length:=by
 unfold A1k at h
 cases hc:A1I s c with
 |none=>rw[hc] at h;cases h
 |some p=>
  rw[hc] at h
  simp only[CZ,Prod.mk.injEq] at h
  obtain⟨v',_,_,rfl⟩:=h
  exact A9Y (a:=p.1) (r:=p.2) hc
theorem A8v{s r:List UInt8}{x:Ed}(h:A1G s=some (x,r)):r.length<s.length:=by
 unfold A1G at h
 cases h1:A1k s 32 with
 |none=>rw[h1] at h;cases h
 |some p1=>
  obtain⟨a,r1⟩:=p1
  rw[h1] at h
  simp only at h
  cases h2:A1k r1 32 with
  |none=>rw[h2] at h;cases h
  |some p2=>
   obtain⟨d,r2⟩:=p2
   rw[h2] at h
   simp only at h
   cases h3:A1k r2 58 with
   |none=>rw[h3] at h;cases h
   |some p3=>
    obtain⟨n,r3⟩:=p3
    rw[h3] at h
    simp only at h
    obtain⟨_,_,rfl⟩:=A8u h
    have:=A6s h1
    have:=A6s h2
    have:=A6s h3
    rw[AZ];omega
def A6t:Nat→List UInt8→Option (List Ed)
 |0,_=>none
 |f+1,s=>if s=[] then some [] else match A1G s with
  |none=>none
  |some p=>(A6t f p.2).map (p.1::·)
theorem B4l:∀(f:Nat) {g:Nat} {s:List UInt8},s.length<f→s.length<g→A6t f s=A6t g s:=by
 intro f
 induction f with
 |zero=>intro g s h;omega
 |succ f ih=>
  intro g s h1 h2
  obtain⟨g,rfl⟩:∃g',g=g'+1:=⟨g-1,by omega⟩
  rw[A6t,A6t]
  by_cases hs:s=[]
  ·rw[if_pos hs,if_pos hs]
  ·rw[if_neg hs,if_neg hs]
   cases he:A1G s with
   |none=>rfl
   |some p=>
    have:=A8v (x:=p.1) (r:=p.2) he
    simp only
    rw[ih (g:=g) (s:=p.2) EE EE]
def A2G(s:List UInt8):Option (List Ed):=A6t (s.length+1) s
theorem B0a:A2G []=some []:=rfl
theorem A4i{s:List UInt8}(hs:s≠ []):A2G s=match A1G s with
 |none=>none
 |some p=>(A2G p.2).map (p.1::·):=by
 unfold A2G
 rw[A6t,if_neg hs]
 cases he:A1G s with
 |none=>rfl
 |some p=>
  have:=A8v (x:=p.1) (r:=p.2) he
  simp only
  rw[B4l s.length (g:=p.2.length+1) (s:=p.2) EE EE]
def A2R(n:Nat)(s:List UInt8):Option (List Ed):=match A2G s with
 |some out=>if n+out.length≤20∧∀x∈out,A0A x=0 then some out else none
 |none=>none
theorem B5C{n:Nat}(h:n≤20):A2R n []=some []:=by
 unfold A2R;rw[B0a];simp;omega
theorem B4m{s:List UInt8}(hs:s≠ []):A2R 20 s=none:=by
 unfold A2R
 rw[A4i hs]
 cases A1G s with
 |none=>rfl
 |some p=>
  simp only
  cases A2G p.2 with
  |none=>rfl
  |some out=>simp only[CC];rw[if_neg];rintro⟨h,_⟩;rw[AM] at h;omega
theorem A8w{s:List UInt8}{n:Nat}(hs:s≠ []):A2R n s=match A2W s with
 |none=>none
 |some p=>(A2R (n+1) p.2).map (p.1::·):=by
 rw[B5B]
 unfold A2R
 rw[A4i hs]
 cases A1G s with
 |none=>rfl
 |some p=>
  simp only[fits]
  cases hr:A2G p.2 with
  |none=>
   simp only[Option.map_none]
   by_cases h:A0A p.1=0
   ·rw[if_pos h];simp only[hr,Option.map_none]
   ·rw[if_neg h]
  |some out=>
   simp only[CC]
   by_cases h:A0A p.1=0
   ·rw[if_pos h];simp only[hr]
    by_cases h2:n+1+out.length≤20∧∀x∈out,A0A x=0
    ·rw[if_pos h2,if_pos ⟨by rw[AM];omega,fun x hx=>by
      rcases Br.1 hx with rfl|hx
      ·exact h
      ·exact h2.2 x hx⟩];rfl
    ·rw[if_neg h2,if_neg (fun h3=>h2 ⟨by have:=h3.1;rw[AM] at this;omega,fun x hx=>h3.2 x (By _ hx)⟩)];rfl
   ·rw[if_neg h,if_neg (fun h3=>h (h3.2 _ Bu))]
theorem B4n(s:List UInt8):A2R 0 s=match A2G s with
 |some out=>if A1d out=0 then some out else none
 |none=>none:=by
 unfold A2R
 cases A2G s with
 |none=>rfl
 |some out=>
  simp only[An]
  by_cases h:A1d out=0
  ·rw[if_pos h,if_pos (A1c.1 h)]
  ·rw[if_neg h,if_neg (fun h2=>h (A1c.2 h2))]
theorem B3u{o:Option (List Ed)}{out:List Ed}{x:Ed}:((o.map (x::·)).map (out++·))=o.map ((out++ [x])++·):=by
 cases o with
 |none=>rfl
 |some l=>simp
end Go.Proofs.YtplgghjdidmcfaaGreatDoor
