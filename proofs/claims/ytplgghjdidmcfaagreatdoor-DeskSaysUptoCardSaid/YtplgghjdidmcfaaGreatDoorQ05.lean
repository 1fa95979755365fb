/- Written anew, smaller, by a program of our own out of our texts. No condition of our own. -/
import Derived.Test.YtplgghjdidmcfaaGreatDoorQ04
import Derived.Test.YtplgghjdidmcfaaGreatDoorQ03
import Derived.Test.YtplgghjdidmcfaaGreatDoorQ01
set_option maxRecDepth 100000
set_option maxHeartbeats 16000000
set_option linter.all false
namespace Go.Proofs.YtplgghjdidmcfaaGreatDoor
open Go.RowKit
theorem B7z(z:Value)(hz:z.cells= #[z])(m:Nat):(madeCells z.cells (m*1)).toList=List.replicate m z:=by
 rw[hz]
 apply CO
 ·simp[size_madeCells]
 ·intro j h1 h2
  simp[madeCells,Nat.mod_one]
def Blk(w:World)(g:Nat)(t:TypeId)(cs:Array Value):Prop:=w.heap[g]? =some (.cells cs t (0,0))
section
variable {w w':World} {g:Nat} {t:TypeId} {cs:Array Value}
theorem Blk.lt(h:Blk w g t cs):g<w.heap.size:=(Ay.1 h).1
theorem Blk.cell(h:Blk w g t cs)(i:Nat):w.cell? ⟨g,i,none⟩=cs[i]? :=cell_of_row w g i cs t (0,0) h
theorem Blk.cell0{a:Value}{r:List Value}(h:Blk w g t ⟨a::r⟩):w.cell? ⟨g,0,none⟩=some a:=h.cell 0
theorem Blk.cell1{a b:Value}{r:List Value}(h:Blk w g t ⟨a::b::r⟩):w.cell? ⟨g,1,none⟩=some b:=h.cell 1
theorem Blk.cell2{a b c:Value}{r:List Value}(h:Blk w g t ⟨a::b::c::r⟩):w.cell? ⟨g,2,none⟩=some c:=h.cell 2
theorem Blk.frozen(h:Blk w g t cs)(i:Nat):w.frozen? ⟨g,i,none⟩=false:=by
 unfold Blk at h
 simp[World.frozen?,h]
theorem Blk.new_(w:World)(t:TypeId)(cs:Array Value):Blk (w.alloc (.cells cs t)) w.heap.size t cs:=DU w _
theorem Blk.drew(h:Blk w g t cs):Blk w.drew g t cs:=h
theorem Blk.drewN(h:Blk w g t cs)(n:Nat):Blk (w.drewN n) g t cs:=h
theorem Blk.below{B:Nat}(h:Blk w g t cs)(hb:Below B w w')(hg:g<B):Blk w' g t cs:=(hb.block g hg).trans h
theorem Blk.below'(h:Blk w g t cs)(hb:Below w.heap.size w w'):Blk w' g t cs:=h.below hb h.lt
theorem Blk.alloc(h:Blk w g t cs)(o:Obj):Blk (w.alloc o) g t cs:=h.below' ((AI _ _).alloc (AD _) _)
theorem Blk.set_(h:Blk w g t cs)(i:Nat)(u:Value):Blk (w.setCell ⟨g,i,none⟩ u) g t (cs.setIfInBounds i u):=by
 unfold Blk at h⊢
 simp[World.setCell,Array.getElem?_modify,h]
theorem Blk.far(h:Blk w g t cs){p:Addr}(hp:g≠p.block)(u:Value):Blk (w.setCell p u) g t cs:=(Bp w p u g hp).trans h
theorem Blk.grown{row:Option Nat}(h:Blk w g t cs)(hb:w.grownBy w' row)(hg:some g≠row):Blk w' g t cs:=(hb.block g h.lt hg).trans h
end
section
variable {w w' w2:World} {row:Option Nat} {g:Nat}
theorem A0U(w:World)(row:Option Nat):w.grownBy w row:=⟨rfl,rfl,rfl,AD _,fun _ _ _=>rfl⟩
theorem A0M(h:w.grownBy w' row)(k:w'.grownBy w2 row):w.grownBy w2 row:=
 ⟨k.os.trans h.os,k.tape.trans h.tape,k.output.trans h.output,AQ h.size k.size,fun i hi hr=>(k.block i (AO hi h.size) hr).trans (h.block i hi hr)⟩
theorem A2M(h:Below w.heap.size w w')(row:Option Nat):w.grownBy w' row:=⟨h.os,h.tape,h.output,h.size,fun k hk _=>h.block k hk⟩
theorem A2N(h:w.grownBy w' row)(k:Below w'.heap.size w' w2):w.grownBy w2 row:=A0M h (A2M k row)
theorem A1F(h:w.grownBy w' (some g))(i:Nat)(u:Value):w.grownBy (w'.setCell ⟨g,i,none⟩ u) (some g):=
 A0M h ⟨rfl,rfl,rfl,by simp[World.setCell],fun k _ hk=>Bp w' ⟨g,i,none⟩ u k (fun e=>hk (by rw[e]))⟩
theorem B7A(h:w.grownBy w' row)(n:Nat):w.grownBy (w'.drewN n) row:=A2N h (A0d (AI _ _) _)
theorem A3Y(h:w.grownBy w' row):w.grownBy w'.drew row:=A2N h (Bl (AI _ _))
theorem B1s{base:Nat}{a:World}(h:Below base a w)(hg:w.grownBy w' (some g))(hb:base≤g)(hs:base≤w.heap.size):Below base a w':=
 h.grown hg hs (fun k hk=>by cases hk;exact hb)
end
def ArrI(w:World)(base g n:Nat)(l:List Int):Prop:=w.ownsRow base 3 1 (.slice (some ⟨g,0,none⟩) n n) n (ints l)
theorem B5u(l:List Int)(k:Nat)(h:k<l.length):(ints l)[k]? =some (.int .i64 (l.getD k 0)):=by
 rw[ints,BT,AK,AL h];rfl
theorem B7B(l:List Int)(k:Nat)(v:Int):ints (l.set k v)=(ints l).set k (.int .i64 v):=by simp[ints,List.map_set]
section
variable {w w':World} {base g n:Nat} {l:List Int}
theorem ArrI.len(h:ArrI w base g n l):l.length=n:=by have:=h.1;simpa[ints] using this
theorem ArrI.at_(h:ArrI w base g n l){k:Nat}(hk:k<n):w.cell? ⟨g,k,none⟩=some (.int .i64 (l.getD k 0)):=by
 have:=h.len
 rw[World.ownsRow.cellAt h k EE,B5u l k EE]
theorem ArrI.free(h:ArrI w base g n l)(k:Nat):w.frozen? ⟨g,k,none⟩=false:=World.ownsRow.frozenAt h k
theorem ArrI.set_(h:ArrI w base g n l)(k:Nat)(v:Int):ArrI (w.setCell ⟨g,k,none⟩ (.int .i64 v)) base g n (l.set k v):=by
 have:=(World.ownsRow.stored h k (.int .i64 v)).1
 unfold ArrI;rw[B7B];exact this
theorem ArrI.lt(h:ArrI w base g n l):base≤g∧g<w.heap.size:=DD h g rfl
theorem ArrI.below(h:ArrI w base g n l)(hb:Below w.heap.size w w'):ArrI w' base g n l:=A1l h hb
theorem ArrI.kept{row:Option Nat}(h:ArrI w base g n l)(hg:w.grownBy w' row)(hne:some g≠row):ArrI w' base g n l:=World.ownsRow.kept h hg (.inr hne)
theorem ArrI.drewN(h:ArrI w base g n l)(k:Nat):ArrI (w.drewN k) base g n l:=h
end
structure Tab (w:World) (base gT n m:Nat) (E:Nat→Prop) (G:Nat→Nat) (R:Nat→List Int):Prop where
 top:∃xs,w.ownsRow base 91 1 (.slice (some ⟨gT,0,none⟩) n n) n xs∧∀i,E i→xs[i]? =some (.slice (some ⟨G i,0,none⟩) m m)
 row:∀i,E i→ArrI w base (G i) m (R i)
 lt:∀i,E i→i<n
 inj:∀i j,E i→E j→G i=G j→i=j
section
variable {w w':World} {base gT n m:Nat} {E:Nat→Prop} {G:Nat→Nat} {R:Nat→List Int}
theorem Tab.ptr(h:Tab w base gT n m E G R){i:Nat}(hi:E i):w.cell? ⟨gT,i,none⟩=some (.slice (some ⟨G i,0,none⟩) m m):=by
 obtain⟨xs,h1,h2⟩:=h.top
 rw[h1.cellAt i (by have:=h.lt i hi;omega),h2 i hi]
theorem Tab.gT_lt(h:Tab w base gT n m E G R):base≤gT∧gT<w.heap.size:=by
 obtain⟨xs,h1,_⟩:=h.top
 exact h1.lt gT rfl
theorem Tab.ne(h:Tab w base gT n m E G R){i:Nat}(hi:E i):gT≠G i:=by
 obtain⟨xs,h1,_⟩:=h.top
 have:=B5t h1 (h.row i hi) EF
 simpa[Value.ownBlock] using this
theorem Tab.below(h:Tab w base gT n m E G R)(hb:Below w.heap.size w w'):Tab w' base gT n m E G R:=by
 obtain⟨xs,h1,h2⟩:=h.top
 exact⟨⟨xs,A1l h1 hb,h2⟩,fun i hi=>(h.row i hi).below hb,h.lt,h.inj⟩
theorem Tab.drewN(h:Tab w base gT n m E G R)(k:Nat):Tab (w.drewN k) base gT n m E G R:=h.below (A0d (AI _ _) _)
theorem Tab.slot(h:Tab w base gT n m E G R){i:Nat}(hi:i<n):∃u,w.cell? ⟨gT,i,none⟩=some u∧w.frozen? ⟨gT,i,none⟩=false:=by
 obtain⟨xs,h1,_⟩:=h.top
 have hl:xs.length=n:=by have:=h1.1;omega
 exact⟨xs[i],by rw[h1.cellAt i EE,AL EE],h1.frozenAt i⟩
theorem Tab.congr{E':Nat→Prop}(h:Tab w base gT n m E G R)(e:∀j,E j↔E' j):Tab w base gT n m E' G R:=by
 obtain rfl:E=E':=funext fun j=>propext (e j)
 exact h
theorem Tab.set_(h:Tab w base gT n m E G R){i:Nat}(hi:E i)(k:Nat)(v:Int):
 Tab (w.setCell ⟨G i,k,none⟩ (.int .i64 v)) base gT n m E G (fun j=>if j=i then(R i).set k v else R j):=by
 obtain⟨xs,h1,h2⟩:=h.top
 have hg:w.grownBy (w.setCell ⟨G i,k,none⟩ (.int .i64 v)) (some (G i)):=A1F (A0U _ _) _ _
 refine⟨⟨xs,h1.kept hg (.inr (by simpa[Value.ownBlock] using h.ne hi)),h2⟩,fun j hj=> ?_,h.lt,h.inj⟩
 by_cases hji:j=i
 ·subst hji;simp only[DJ];exact(h.row j hj).set_ k v
 ·simp only[hji,CD]
  exact(h.row j hj).kept hg (fun e=>hji (h.inj j i hj hi (by simpa using e)))
theorem Tab.add(h:Tab w base gT n m E G R){i g:Nat}{l:List Int}(hi:¬E i)(hin:i<n)(hrow:ArrI w base g m l)(hg:∀j,E j→G j≠g):
 Tab (w.setCell ⟨gT,i,none⟩ (.slice (some ⟨g,0,none⟩) m m)) base gT n m (fun j=>j=i∨E j) (fun j=>if j=i then g else G j) (fun j=>if j=i then l else R j):=by
 obtain⟨xs,h1,h2⟩:=h.top
 have hgb:w.grownBy (w.setCell ⟨gT,i,none⟩ (.slice (some ⟨g,0,none⟩) m m)) (some gT):=A1F (A0U _ _) _ _
 have hxl:xs.length=n:=by have:=h1.1;omega
 have hng:gT≠g:=by
  have:=B5t h1 hrow EF
  simpa[Value.ownBlock] using this
 refine⟨⟨xs.set i (.slice (some ⟨g,0,none⟩) m m),(h1.stored i _).1,fun j hj=> ?_⟩,fun j hj=> ?_,fun j hj=> ?_,fun j k hj hk e=> ?_⟩
 ·by_cases hji:j=i
  ·subst hji;simp only[DJ]
   rw[List.getElem?_set_self EE]
  ·simp only[hji,CD]
   rw[List.getElem?_set_ne (fun e=>hji e.symm)]
   exact h2 j (hj.resolve_left hji)
 ·by_cases hji:j=i
  ·subst hji;simp only[DJ];exact hrow.kept hgb (fun e=>hng (by simpa using e.symm))
  ·simp only[hji,CD]
   exact(h.row j (hj.resolve_left hji)).kept hgb (fun e=>h.ne (hj.resolve_left hji) (by simpa using e.symm))
 ·rcases hj with rfl|hj
  ·exact hin
  ·exact h.lt j hj
 ·by_cases hji:j=i
  ·by_cases hki:k=i
   ·omega
   ·exfalso
    simp only[hji,DJ,hki,CD] at e
    exact hg k (hk.resolve_left hki) e.symm
  ·by_cases hki:k=i
   ·exfalso
    simp only[hji,CD,hki,DJ] at e
    exact hg j (hj.resolve_left hji) e
   ·simp only[hji,CD,hki] at e
    exact h.inj j k (hj.resolve_left hji) (hk.resolve_left hki) e
end
theorem A1E:(Tryz.prog.info? 3).map (fun i=>(i.zero,i.size,i.bytes))=some (some (.int .i64 0),1,8):=by kernel_rfl
theorem B1t:(Tryz.prog.info? 91).map (fun i=>(i.zero,i.size,i.bytes))=some (some (.slice none 0 0),1,24):=by kernel_rfl
theorem A4H(m:Nat):(madeCells (Value.cells (.int .i64 0)) (m*1)).toList=ints (List.replicate m 0):=by
 rw[B7z _ rfl];simp[ints]
theorem Tab.start{w:World}{base gT n:Nat}{xs:List Value}(h:w.ownsRow base 91 1 (.slice (some ⟨gT,0,none⟩) n n) n xs)(m:Nat)(G:Nat→Nat)(R:Nat→List Int):Tab w base gT n m (fun _=>False) G R:=
 ⟨⟨xs,h,fun _ h=>h.elim⟩,fun _ h=>h.elim,fun _ h=>h.elim,fun _ _ h=>h.elim⟩
end Go.Proofs.YtplgghjdidmcfaaGreatDoor
namespace Go.Proofs.YtplgghjdidmcfaaGreatDoor
def lev:List UInt8→List UInt8→Nat
 |[],b=>b.length
 |a,[]=>a.length
 |x::a,y::b=>if x=y then lev a b else 1+min (lev a (y::b)) (min (lev (x::a) b) (lev a b))
termination_by a b=>a.length+b.length
theorem A1w(b:List UInt8):lev [] b=b.length:=by rw[lev]
theorem A1D(a:List UInt8):lev a []=a.length:=by cases a<;>simp[lev]
theorem A1X(x y:UInt8)(a b:List UInt8):lev (x::a) (y::b)=if x=y then lev a b else 1+min (lev a (y::b)) (min (lev (x::a) b) (lev a b)):=by rw[lev]
inductive Al:List UInt8→List UInt8→Nat→Prop
 |nil:Al [] [] 0
 |keep {a b n} (x):Al a b n→Al (x::a) (x::b) n
 |sub {a b n} (x y):Al a b n→Al (x::a) (y::b) (n+1)
 |del {a b n} (x):Al a b n→Al (x::a) b (n+1)
 |ins {a b n} (y):Al a b n→Al a (y::b) (n+1)
theorem B5v(b:List UInt8):Al [] b b.length:=by
 induction b with
 |nil=>exact .nil
 |cons y b ih=>exact .ins y ih
theorem al_del(a:List UInt8):Al a [] a.length:=by
 induction a with
 |nil=>exact .nil
 |cons y b ih=>exact .del y ih
theorem B5w:∀(n:Nat) (a b:List UInt8),a.length+b.length≤n→Al a b (lev a b):=by
 intro n
 induction n with
 |zero=>
  intro a b h
  cases a with
  |nil=>cases b with
   |nil=>rw[A1w];exact .nil
   |cons=>simp only[AM] at h;omega
  |cons=>simp only[AM] at h;omega
 |succ n ih=>
  intro a b h
  cases a with
  |nil=>rw[A1w];exact B5v b
  |cons x a=>
   cases b with
   |nil=>rw[A1D];exact al_del _
   |cons y b=>
    simp only[AM] at h
    have h1:=ih a b EE
    have h2:=ih a (y::b) (by simp only[AM];omega)
    have h3:=ih (x::a) b (by simp only[AM];omega)
    rw[A1X]
    split
    ·rename_i e;subst e;exact .keep _ h1
    ·rcases Nat.le_total (lev a (y::b)) (min (lev (x::a) b) (lev a b)) with e|e
     ·rw[BX e,DB];exact .del _ h2
     ·rw[Nat.min_eq_right e]
      rcases Nat.le_total (lev (x::a) b) (lev a b) with e|e
      ·rw[BX e,DB];exact .ins _ h3
      ·rw[Nat.min_eq_right e,DB];exact .sub _ _ h1
theorem A3O:∀(n:Nat) (a b:List UInt8) (x:UInt8),a.length+b.length≤n→lev a b≤lev (x::a) b+1∧lev b a≤lev b (x::a)+1:=by
 intro n
 induction n with
 |zero=>
  intro a b x h
  cases a with
  |nil=>cases b with
   |nil=>simp[A1w,A1D]
   |cons=>simp only[AM] at h;omega
  |cons=>simp only[AM] at h;omega
 |succ n ih=>
  intro a b x h
  cases b with
  |nil=>simp[A1w,A1D];omega
  |cons y b=>
   simp only[AM] at h
   have h0:=ih a b x EE
   cases a with
   |nil=>
    rw[A1w,A1D,A1X,A1X]
    simp only[AM,A1w,A1D]
    have h1:=ih [] b x (by simp;omega)
    simp only[A1w,A1D] at h1
    constructor<;>split<;>omega
   |cons z a=>
    simp only[AM] at h
    have h1:=ih a b z EE
    have h2:=ih (z::a) b x (by simp only[AM];omega)
    rw[A1X x y,A1X y x]
    rw[A1X z y,A1X y z]
    have h3:=ih a b y EE
    have h4:=ih b a y EE
    constructor
    ·split
     ·rename_i e;subst e
      split<;>omega
     ·split<;>omega
    ·split
     ·rename_i e;subst e
      split<;>omega
     ·split<;>omega
theorem B1u{a b:List UInt8}{n:Nat}(h:Al a b n):lev a b≤n:=by
 induction h with
 |nil=>simp[A1w]
 |keep x h ih=>rw[A1X,if_pos rfl];exact ih
 |@sub a b n x y h ih=>
  rw[A1X];split<;>omega
 |@del a b n x h ih=>
  cases b with
  |nil=>rw[A1D] at*;simp;omega
  |cons y b=>
   rw[A1X]
   split
   ·have:=(A3O _ b a y (AD _)).2;omega
   ·omega
 |@ins a b n y h ih=>
  cases a with
  |nil=>rw[A1w] at*;simp;omega
  |cons x a=>
   rw[A1X]
   split
   ·have:=(A3O _ a b x (AD _)).1;omega
   ·omega
theorem Al.snoc{a b:List UInt8}{n:Nat}(h:Al a b n):(∀x,Al (a++ [x]) (b++ [x]) n)∧(∀x y,Al (a++ [x]) (b++ [y]) (n+1))∧(∀x,Al (a++ [x]) b (n+1))∧(∀y,Al a (b++ [y]) (n+1)):=by
 induction h with
 |nil=>exact⟨fun x=> .keep x .nil,fun x y=> .sub x y .nil,fun x=> .del x .nil,fun y=> .ins y .nil⟩
 |keep z h ih=>exact⟨fun x=> .keep z (ih.1 x),fun x y=> .keep z (ih.2.1 x y),fun x=> .keep z (ih.2.2.1 x),fun y=> .keep z (ih.2.2.2 y)⟩
 |sub u z h ih=>exact⟨fun x=> .sub u z (ih.1 x),fun x y=> .sub u z (ih.2.1 x y),fun x=> .sub u z (ih.2.2.1 x),fun y=> .sub u z (ih.2.2.2 y)⟩
 |del z h ih=>exact⟨fun x=> .del z (ih.1 x),fun x y=> .del z (ih.2.1 x y),fun x=> .del z (ih.2.2.1 x),fun y=> .del z (ih.2.2.2 y)⟩
 |ins z h ih=>exact⟨fun x=> .ins z (ih.1 x),fun x y=> .ins z (ih.2.1 x y),fun x=> .ins z (ih.2.2.1 x),fun y=> .ins z (ih.2.2.2 y)⟩
theorem Al.rev{a b:List UInt8}{n:Nat}(h:Al a b n):Al a.reverse b.reverse n:=by
 induction h with
 |nil=>exact .nil
 |keep z h ih=>simp only[Cw];exact ih.snoc.1 z
 |sub u z h ih=>simp only[Cw];exact ih.snoc.2.1 u z
 |del z h ih=>simp only[Cw];exact ih.snoc.2.2.1 z
 |ins z h ih=>simp only[Cw];exact ih.snoc.2.2.2 z
theorem A7x(a b:List UInt8):lev a.reverse b.reverse=lev a b:=by
 have h1:=B1u (B5w _ a b (AD _)).rev
 have h2:=B1u (B5w _ a.reverse b.reverse (AD _)).rev
 rw[List.reverse_reverse,List.reverse_reverse] at h2
 omega
theorem B8E(x y:UInt8)(a b:List UInt8):lev (x::a) (y::b)=min (lev a b+if x=y then 0 else 1) (min (lev (x::a) b+1) (lev a (y::b)+1)):=by
 have h1:=(A3O _ a b x (AD _)).1
 have h2:=(A3O _ b a y (AD _)).2
 rw[A1X]
 split<;>omega
theorem B7C(x y:UInt8)(a b:List UInt8):lev (a++ [x]) (b++ [y])=min (lev a b+if x=y then 0 else 1) (min (lev (a++ [x]) b+1) (lev a (b++ [y])+1)):=by
 rw[←A7x (a++ [x]) (b++ [y]),←A7x (a++ [x]) b,←A7x a (b++ [y]),←A7x a b]
 simp only[List.reverse_append,Cw,List.reverse_nil,Am,List.singleton_append]
 exact B8E x y _ _
theorem A5i(a b:List UInt8):lev a b≤a.length+b.length:=by
 refine B1u (n:=a.length+b.length) ?_
 induction a with
 |nil=>simpa using B5v b
 |cons x a ih=>rw[AM,show a.length+1+b.length=a.length+b.length+1 by omega];exact .del x ih
end Go.Proofs.YtplgghjdidmcfaaGreatDoor
