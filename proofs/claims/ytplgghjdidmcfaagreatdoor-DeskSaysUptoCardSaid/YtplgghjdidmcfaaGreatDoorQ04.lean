/- Written anew, smaller, by a program of our own out of our texts. No condition of our own. -/
import Derived.Test.YtplgghjdidmcfaaGreatDoorQ01
import Derived.Test.YtplgghjdidmcfaaGreatDoorQ03
import Derived.Test.YtplgghjdidmcfaaGreatDoorQ02
set_option maxRecDepth 100000
set_option maxHeartbeats 16000000
set_option linter.all false
namespace Go.Proofs.YtplgghjdidmcfaaGreatDoor
open Go.RowKit
section
variable {w:World} {base base':Nat} {e e':TypeId} {size size':Nat} {v v':Value} {n n':Nat} {xs xs':List Value}
theorem B5t(h:w.ownsRow base e size v n xs)(h':w.ownsRow base' e' size' v' n' xs')(hne:e≠e'):v.ownBlock=none∨v.ownBlock≠v'.ownBlock:=by
 rcases h.2 with⟨rfl,_⟩|⟨g,cap,cur,rfl,_,h3,_⟩
 ·exact .inl rfl
 ·refine .inr fun hb=> ?_
  rcases h'.2 with⟨rfl,_⟩|⟨g',cap',cur',rfl,_,h3',_⟩
  ·simp[Value.ownBlock] at hb
  ·simp only[Value.ownBlock,Option.some.injEq] at hb
   subst hb
   rw[h3] at h3'
   injection h3' with h3'
   injection h3' with _ h4
   exact hne h4
end
theorem A3m(w:World)(cs:Array Value)(t:TypeId):∀j u,cs.toList[j]? =some u→(w.alloc (.cells cs t)).cell? (Addr.add ⟨w.heap.size,0,none⟩ j)=some u:=fun j u h=>by
 rw[B1i _ _ j cs t (DU w _)];simpa using h
theorem B4f(w:World)(a b:Value)(t:TypeId):∀j u,[a,b][j]? =some u→(w.alloc (.cells #[a,b] t)).cell? (Addr.add ⟨w.heap.size,0,none⟩ j)=some u:=A3m w #[a,b] t
theorem A3u(w:World)(a b c:Value)(t:TypeId):∀j u,[a,b,c][j]? =some u→(w.alloc (.cells #[a,b,c] t)).cell? (Addr.add ⟨w.heap.size,0,none⟩ j)=some u:=A3m w #[a,b,c] t
theorem getB(s:ByteArray)(i:Nat)(h:i<s.size):s[i]'h=(L s).getD i 0:=by
 rw[AK,AL (by rw[A0e];exact h)]
 rfl
theorem A0r{P:Program}{w:World}{ops:Array Oper}{rest:List Oper}{o:Oper}{a:Act}{Q:Exit→Act→World→Prop}(hgd:o.guard=none)(s x:Operand)(t:TypeId)(ho:o.op= .call {callee:= .builtin .append,args:= #[s,x],argTypes:= #[t,t]})(base:Nat)(e:TypeId)(i:TypeInfo)(z:Value)(size bytes:Nat)(ht:P.underlying t=some (.slice e))(hi:P.info? e=some i)(hz:i.zero=some z)(hsize:i.size=size)(hby:i.bytes=bytes)(hzs:z.cells.size=size)(hsz:0<size)(v:Value)(n:Nat)(xs:List Value)(hs:a.eval s=v)(hown:w.ownsRow base e size v n xs)(ad:Addr)(m c:Nat)(news:List Value)(hx:a.eval x= .slice (some ad) m c)(hl:news.length=m*size)(hnews:∀j u,news[j]? =some u→w.cell? (ad.add j)=some u)(h1:∀u∈news,u.oneCell'=true)(hbytes:(n+m)*bytes≤140737488355328)(hb0:0<bytes)(hbase:base≤w.heap.size)(h:∀v' w',w'.ownsRow base e size v' (n+m) (xs++news)→w.grownBy w' v.ownBlock→Below base w w'→wpList P ops Q rest (a.put o.dst v') w'):wpList P ops Q (o::rest) a w:=
 wpList_append_own w hgd s x t ho base e i z size bytes ht hi hz hsize hby hzs hsz v n xs hs hown ad m c news hx hl hnews h1
  (by have:=CK (n+m) hb0;unfold maxLen;omega) hbytes hbase
  fun v' w' h2 h3 _=>h v' w' h2 h3 ((AI base w).grown h3 hbase (fun k hk=>(hown.lt k hk).1))
end Go.Proofs.YtplgghjdidmcfaaGreatDoor
namespace Go.Proofs.YtplgghjdidmcfaaGreatDoor
def total:List Nat→Nat
 |[]=>0
 |m::r=>2^(12-m)+total r
end Go.Proofs.YtplgghjdidmcfaaGreatDoor
