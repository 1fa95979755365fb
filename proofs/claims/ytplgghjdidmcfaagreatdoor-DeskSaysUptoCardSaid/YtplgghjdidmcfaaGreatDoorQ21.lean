/- Written anew, smaller, by a program of our own out of our texts. No condition of our own. -/
import Derived.Test.YtplgghjdidmcfaaGreatDoorQ03
import Derived.Test.YtplgghjdidmcfaaGreatDoorQShelf
import Derived.Test.YtplgghjdidmcfaaGreatDoorQ18
import Derived.Sort.OwnSorted
import Derived.Lib.OwnBridge
set_option maxRecDepth 100000
set_option maxHeartbeats 16000000
set_option linter.all false
namespace Go.Proofs.YtplgghjdidmcfaaGreatDoor
open Go.RowKit
theorem Rd.spot{w:World}{B n:Nat}{A:Option Addr}{xs:List Value}(h:Rd w B 1 A n xs)(hn:0<n):∃b o,A=some ⟨b,o,none⟩∧b<B∧∀(j:Nat) u,xs[j]? =some u→w.cell? ⟨b,o+j,none⟩=some u:=by
 obtain⟨ad,e,hb,hc⟩:=h.2 hn
 have h0:0<xs.length:=by have:=h.1;omega
 have hc0:=hc 0 _ (AL h0)
 obtain⟨b,o,sp⟩:=ad
 have hsp:sp=none:=by
  cases sp with
  |none=>rfl
  |some q=>
   exfalso
   have e0:(⟨b,o,some q⟩:Addr).add 0=⟨b,o,some q⟩:=by unfold Addr.add;rw[if_pos rfl]
   rw[e0] at hc0
   unfold World.cell? at hc0
   split at hc0
   ·simp at hc0
   ·cases hc0
 subst hsp
 refine⟨b,o,e,hb,fun j u hu=> ?_⟩
 have h1:=hc j u hu
 have e1:(⟨b,o,none⟩:Addr).add j=⟨b,o+j,none⟩:=by unfold Addr.add;split<;>simp_all
 rwa[e1] at h1
theorem Chg.cellH{w w':World}{K:Nat→Prop}(h:Chg w w' K){p:Addr}(hp:p.block<w.heap.size)(hK:¬K p.block):w'.cell? p=w.cell? p:=CJ (w:=w) (h.block p.block hp hK)
def Off(K:Nat→Prop)(A:Option Addr):Prop:=∀ad,A=some ad→¬K ad.block
theorem Off.nil_(K:Nat→Prop):Off K none:=fun ad h=>by cases h
theorem Off.mono{K K':Nat→Prop}{A:Option Addr}{N:Nat}(h:Off K A)(hA:∀ad,A=some ad→ad.block<N)(hK:∀k,K' k→K k∨N≤k):Off K' A:=fun ad e hk=>by
 rcases hK _ hk with hk|hk
 ·exact h ad e hk
 ·have:=hA ad e;omega
structure RdK (w:World) (K:Nat→Prop) (size:Nat) (A:Option Addr) (n:Nat) (xs:List Value):Prop where
 rd:Rd w w.heap.size size A n xs
 off:Off K A
 lt:∀ad,A=some ad→ad.block<w.heap.size
section
variable {w w':World} {K K':Nat→Prop} {size n:Nat} {A:Option Addr} {xs:List Value}
theorem RdK.nil_(w:World)(K:Nat→Prop)(size:Nat):RdK w K size none 0 []:=⟨Rd.nil_,Off.nil_ K,fun ad h=>by cases h⟩
theorem RdK.below(h:RdK w K size A n xs)(hb:Below w.heap.size w w'):RdK w' K size A n xs:=⟨(h.rd.below hb).more hb.size,h.off,fun ad e=>AO (h.lt ad e) hb.size⟩
theorem RdK.chg(h:RdK w K size A n xs)(hc:Chg w w' K):RdK w' K size A n xs:=by
 refine⟨⟨h.rd.1,fun hn=> ?_⟩,h.off,fun ad e=>AO (h.lt ad e) hc.size⟩
 obtain⟨ad,e,hb,hcl⟩:=h.rd.2 hn
 refine⟨ad,e,AO hb hc.size,fun j u hu=> ?_⟩
 rw[hc.cellH (by rw[A0z];exact hb) (by rw[A0z];exact h.off ad e)]
 exact hcl j u hu
theorem RdK.mono(h:RdK w K size A n xs)(hK:∀k,K' k→K k∨w.heap.size≤k):RdK w K' size A n xs:=⟨h.rd,h.off.mono h.lt hK,h.lt⟩
theorem RdK.own{base:Nat}{e:TypeId}{v:Value}(h:OwnO w base e size v n xs)(hK:∀k,K k→k<base):∃A c,v= .slice A n c∧n≤c∧c≤maxLen∧RdK w K size A n xs:=by
 obtain⟨A,c,rfl,h1,h2,h3⟩:=h.form
 refine⟨A,c,rfl,h1,h2,h3,fun ad e hk=> ?_,fun ad e=> ?_⟩
 ·have:=(h.lt ad.block (by rw[e];rfl)).1
  have:=hK _ hk
  omega
 ·exact(h.lt ad.block (by rw[e];rfl)).2
end
structure Rc where
 s:Ps
 Ab:Option Addr
 cb:Nat
 Ao:Option Addr
 co:Nat
def Rc.cells(r:Rc):List Value:=[.string r.s.nm,.string r.s.tx,.string r.s.d,.int .i64 (r.s.sf:Int),.slice r.Ab r.s.back.length r.cb,.slice r.Ao r.s.onward.length r.co]
def A1b(l:List Rc):List Value:=l.flatMap Rc.cells
theorem B2d(r:Rc):r.cells.length=6:=rfl
theorem A9G(a b:List Rc):A1b (a++b)=A1b a++A1b b:=by simp[A1b]
theorem A8N(l:List Rc):∀u∈A1b l,u.oneCell'=true:=by
 intro u hu
 unfold A1b at hu
 obtain⟨x,_,hx⟩:=List.mem_flatMap.1 hu
 simp only[Rc.cells,Br,Dl,or_false] at hx
 rcases hx with rfl|rfl|rfl|rfl|rfl|rfl<;>rfl
structure RcAt (w:World) (K:Nat→Prop) (r:Rc):Prop where
 b:RdK w K 1 r.Ab r.s.back.length (strCells r.s.back)
 o:RdK w K 1 r.Ao r.s.onward.length (strCells r.s.onward)
 cb:r.s.back.length≤r.cb∧r.cb≤maxLen
 co:r.s.onward.length≤r.co∧r.co≤maxLen
structure RhAt (w:World) (K:Nat→Prop) (A:Option Addr) (c:Nat) (rs:List Rc):Prop where
 row:RdK w K 6 A rs.length (A1b rs)
 c:rs.length≤c∧c≤maxLen
 pg:∀r∈rs,RcAt w K r
section
variable {w w':World} {K K':Nat→Prop} {A:Option Addr} {c:Nat} {r:Rc} {rs:List Rc}
theorem RcAt.below(h:RcAt w K r)(hb:Below w.heap.size w w'):RcAt w' K r:=⟨h.b.below hb,h.o.below hb,h.cb,h.co⟩
theorem RcAt.chg(h:RcAt w K r)(hc:Chg w w' K):RcAt w' K r:=⟨h.b.chg hc,h.o.chg hc,h.cb,h.co⟩
theorem RcAt.mono(h:RcAt w K r)(hK:∀k,K' k→K k∨w.heap.size≤k):RcAt w K' r:=⟨h.b.mono hK,h.o.mono hK,h.cb,h.co⟩
theorem RhAt.below(h:RhAt w K A c rs)(hb:Below w.heap.size w w'):RhAt w' K A c rs:=⟨h.row.below hb,h.c,fun r hr=>(h.pg r hr).below hb⟩
theorem RhAt.chg(h:RhAt w K A c rs)(hc:Chg w w' K):RhAt w' K A c rs:=⟨h.row.chg hc,h.c,fun r hr=>(h.pg r hr).chg hc⟩
theorem RhAt.mono(h:RhAt w K A c rs)(hK:∀k,K' k→K k∨w.heap.size≤k):RhAt w K' A c rs:=⟨h.row.mono hK,h.c,fun r hr=>(h.pg r hr).mono hK⟩
theorem RhAt.nil_(w:World)(K:Nat→Prop):RhAt w K none 0 []:=⟨RdK.nil_ w K 6,⟨AD _,AS _⟩,fun r h=>by cases h⟩
end
end Go.Proofs.YtplgghjdidmcfaaGreatDoor
namespace Go.Proofs.YtplgghjdidmcfaaGreatDoor
open Go.RowKit Go.Proofs
def A5I(l:List (List UInt8)):List (List UInt8):=l.mergeSort fun x y=>decide (x≤y)
theorem B0o(l:List (List UInt8)):(A5I l).length=l.length:=List.length_mergeSort l
theorem B2e(l:List (List UInt8)):strCells l=l.map encStr:=rfl
theorem A7T(l:List (List UInt8))(v:Value)(w0 w:World)(h:w.ownsRow w0.heap.size 9 1 v l.length (strCells l))(hb:Below w0.heap.size w0 w)(hl:l.length<4611686018427387904):
 Calls Tryz.prog 17 #[v] w fun e w'=>e= .returned (.tuple #[])∧w'.ownsRow w0.heap.size 9 1 v l.length (strCells (A5I l))∧Below w0.heap.size w0 w':=by
 rcases h.2 with⟨rfl,h0⟩|⟨g,cap,cur,rfl,hbase,hg,h1,h2,h3,h4⟩
 ·obtain rfl:l=[]:=AU h0
  refine(Tryz.slices_Sort_string_none none 0 w).mono ?_
  rintro e w' ⟨rfl,rfl⟩
  have e0:A5I []=[]:=by simp[A5I]
  rw[e0]
  exact⟨rfl,h,hb⟩
 ·refine(Tryz.slices_Sort_string g 0 cap l w (holds_of_block hg (by simpa[B2e] using h4)) (Ay.1 hg).1 hl).mono ?_
  rintro e w' ⟨rfl,n,os,rfl⟩
  refine⟨rfl, ?_,hb.grown (grownBy_sorted _) hb.size (fun k hk=>by cases hk;exact hbase)⟩
  exact ownsRow_sorted (B0o l) hbase hg h1 h2 h3
end Go.Proofs.YtplgghjdidmcfaaGreatDoor
namespace Go.Proofs.YtplgghjdidmcfaaGreatDoor
open Go.RowKit
def hsN(P:List Ps):List (List UInt8):=A5I (P.map fun s=>L s.nm)
theorem B8X(P:List Ps):(hsN P).length=P.length:=by unfold hsN;rw[B0o,AW]
end Go.Proofs.YtplgghjdidmcfaaGreatDoor
