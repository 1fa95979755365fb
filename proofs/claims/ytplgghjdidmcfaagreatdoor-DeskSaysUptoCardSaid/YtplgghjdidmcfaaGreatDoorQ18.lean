/- Written anew, smaller, by a program of our own out of our texts. No condition of our own. -/
import Derived.Test.YtplgghjdidmcfaaGreatDoorQ14
import Derived.Test.YtplgghjdidmcfaaGreatDoorQ15
import Derived.Test.YtplgghjdidmcfaaGreatDoorQ17
import Derived.Test.YtplgghjdidmcfaaGreatDoorQ10
set_option maxRecDepth 100000
set_option maxHeartbeats 16000000
set_option linter.all false
namespace Go.Proofs.YtplgghjdidmcfaaGreatDoor
open Go.RowKit
theorem C1w{P:Prop}(h:P:=by
 go_enter Tryz.func147,Tryz.ntmps147
 go_wp2_with fail
 refine(HMU.out _).mono ?_
 rintro e w1 ⟨rfl,rfl⟩
 go_wp2_with fail
 exact⟨rfl,(A3D HV.out).symm,Ds⟩
 ):P:=h
theorem C1x{P:Prop}(h:P:=by
 clear HTK HFF HSN hn2
 go_wp2_with fail
 refine(HMU.out _).mono ?_
 rintro e w2 ⟨rfl,rfl⟩
 go_wp2_with fail
 exact⟨rfl,(A3D (HN.out.trans HF.out)).symm,hW⟩
 ):P:=h
theorem C1y{P:Prop}(h:P:=by
 go_wp2_with fail
 go_ret
 exact⟨A0S (by rw[←HZ.out,HN.out,HF.out];rfl),hW⟩
 ):P:=h
theorem B9Z{P:Prop}(h:P:=by
 rw[AG EE,AG EE]
 rfl
 ):P:=h
theorem C0e{P:Prop}(h:P:=by
 rw[Hid,BR,At,As,Ap,Ap]
 exact Iff.rfl
 ):P:=h
theorem C0j{P:Prop}(h:P:=by
 unfold Hid dig3
 rw[HLL.out,AC (p:=s.size≤3) EE,Cj]
 rfl
 ):P:=h
theorem C2m{P:Prop}(h:P:=by
 rw[HV.out]
 go_enter Tryz.func18,Tryz.ntmps18
 go_wp2_with fail
 go_ret
 exact⟨rfl,Ds⟩
 ):P:=h
structure Ps where
 nm:ByteArray
 tx:ByteArray
 d:ByteArray
 sf:Nat
 back:List (List UInt8)
 onward:List (List UInt8)
def Ps.es(s:Ps):Es:=⟨L s.tx,s.back,s.onward⟩
structure PsOk (s:Ps):Prop where
 lf:LfOk s.tx s.d s.sf
 es:EsOk s.es
def A2z(nm t:ByteArray):Ps:=⟨nm,t,newD t,(newD t).size,[],[]⟩
theorem PsOk.new_{nm t:ByteArray}(h:t.size≤200):PsOk (A2z nm t):=
 ⟨LfOk.new_ h,⟨by show(L t).length≤200;rw[A0e];exact h,fun x hx=>absurd hx (by simp[Ps.es,A2z]),fun x hx=>absurd hx (by simp[Ps.es,A2z]),by simp[Ps.es,A2z]⟩⟩
theorem EsOk.bare{t:ByteArray}(h:t.size≤200):EsOk ⟨L t,[],[]⟩:=
 ⟨by show(L t).length≤200;rw[A0e];exact h,fun x hx=>absurd hx EH,fun x hx=>absurd hx EH,by simp⟩
def edPE(s:Ps)(l:List Ed):Int:=if l.length=0 then 5 else lfE s.tx s.d l
def edP(s:Ps)(l:List Ed):Ps:=if edPE s l=0 then{s with tx:=lfT s.tx s.d l,d:=lfD s.tx s.d l,back:=(s.back++ [L s.tx]).drop (s.back.length+1-30),onward:=[]} else s
theorem B0l{s:Ps}{l:List Ed}(h:edPE s l=0):¬l.length=0∧lfE s.tx s.d l=0∧A0n s.tx.size l=0∧lfT s.tx s.d l=S (A0C (L s.tx) l)∧doE s.es l=0∧doS s.es l=(edP s l).es:=by
 have h0:¬l.length=0:=fun e=>by unfold edPE at h;rw[if_pos e] at h;cases h
 have h1:lfE s.tx s.d l=0:=by unfold edPE at h;rwa[if_neg h0] at h
 have h2:A0n s.tx.size l=0:=by
  refine Decidable.byContradiction fun h2=> ?_
  unfold lfE at h1
  rw[if_neg h2] at h1
  exact h2 h1
 have h3:lfT s.tx s.d l=S (A0C (L s.tx) l):=by unfold lfT;rw[if_pos h1]
 have h4:doE s.es l=0:=by
  unfold doE
  rw[show s.es.text=L s.tx from rfl,A0e,if_pos h2,if_neg h0]
 refine⟨h0,h1,h2,h3,h4, ?_⟩
 unfold doS edP
 rw[if_pos h4,if_pos h]
 show(⟨A0C (L s.tx) l,_,_⟩:Es)=⟨L (lfT s.tx s.d l),_,_⟩
 rw[h3,L_S]
 rfl
theorem PsOk.ed{s:Ps}(h:PsOk s)(l:List Ed):PsOk (edP s l):=by
 by_cases h0:edPE s l=0
 ·obtain⟨_,h1,h2,h3,h4,h5⟩:=B0l h0
  refine⟨?_, ?_⟩
  ·unfold edP
   rw[if_pos h0]
   exact h.lf.edit' l
  ·rw[←h5];exact h.es.do_ l
 ·unfold edP
  rw[if_neg h0];exact h
def unT(s:Ps):ByteArray:=S (s.back.getD (s.back.length-1) [])
def unPE(s:Ps):Int:=if s.back.length=0 then 4 else lsE s.d (unT s)
def unP(s:Ps):Ps:=if unPE s=0 then{s with tx:=unT s,d:=lsD s.d (unT s),back:=s.back.take (s.back.length-1),onward:=s.onward++ [L s.tx]} else s
theorem PsOk.un{s:Ps}(h:PsOk s):PsOk (unP s):=by
 by_cases h0:unPE s=0
 ·have hb:¬s.back.length=0:=fun e=>by unfold unPE at h0;rw[if_pos e] at h0;cases h0
  have h1:lsE s.d (unT s)=0:=by unfold unPE at h0;rwa[if_neg hb] at h0
  have h2:=h.lf.set' (unT s)
  have h3:=h.es.undo
  unfold A1J at h3
  rw[show s.es.back=s.back from rfl,if_neg hb] at h3
  unfold unP
  rw[if_pos h0]
  refine⟨?_, ?_⟩
  ·unfold lsT at h2
   rw[if_pos h1] at h2
   exact h2
  ·have e:L (unT s)=s.back.getD (s.back.length-1) []:=L_S _
   show EsOk ⟨L (unT s),_,_⟩
   rw[e]
   exact h3
 ·unfold unP
  rw[if_neg h0];exact h
def reT(s:Ps):ByteArray:=S (s.onward.getD (s.onward.length-1) [])
def rePE(s:Ps):Int:=if s.onward.length=0 then 4 else lsE s.d (reT s)
def reP(s:Ps):Ps:=if rePE s=0 then{s with tx:=reT s,d:=lsD s.d (reT s),back:=s.back++ [L s.tx],onward:=s.onward.take (s.onward.length-1)} else s
theorem PsOk.re{s:Ps}(h:PsOk s):PsOk (reP s):=by
 by_cases h0:rePE s=0
 ·have hb:¬s.onward.length=0:=fun e=>by unfold rePE at h0;rw[if_pos e] at h0;cases h0
  have h1:lsE s.d (reT s)=0:=by unfold rePE at h0;rwa[if_neg hb] at h0
  have h2:=h.lf.set' (reT s)
  have h3:=h.es.redo
  unfold A1K at h3
  rw[show s.es.onward=s.onward from rfl,if_neg hb] at h3
  unfold reP
  rw[if_pos h0]
  refine⟨?_, ?_⟩
  ·unfold lsT at h2
   rw[if_pos h1] at h2
   exact h2
  ·have e:L (reT s)=s.onward.getD (s.onward.length-1) []:=L_S _
   show EsOk ⟨L (reT s),_,_⟩
   rw[e]
   exact h3
 ·unfold reP
  rw[if_neg h0];exact h
def svP(s:Ps):Ps:={s with sf:=s.d.size}
theorem PsOk.sv{s:Ps}(h:PsOk s):PsOk (svP s):=⟨h.lf.save,h.es⟩
def paP(s:Ps)(stop:Int):Ps:=if pkE stop=0∧stop≠0 then⟨s.nm,pkT s.tx s.d s.sf stop,pkD s.tx s.d s.sf stop,pkF s.tx s.d s.sf stop,[],[]⟩ else{s with d:=pkD s.tx s.d s.sf stop,sf:=pkF s.tx s.d s.sf stop}
theorem A8c{tx d:ByteArray}{sf:Nat}{stop:Int}(h:¬(pkE stop=0∧stop≠0)):pkT tx d sf stop=tx:=by
 unfold pkT
 rw[if_neg]
 intro h2
 refine h ⟨?_,by omega⟩
 unfold pkE
 rw[if_pos EE]
theorem PsOk.pa{s:Ps}(h:PsOk s)(stop:Int):PsOk (paP s stop):=by
 have h1:=h.lf.pack stop
 by_cases h0:pkE stop=0∧stop≠0
 ·unfold paP
  rw[if_pos h0]
  exact⟨h1,EsOk.bare h1.text⟩
 ·unfold paP
  rw[if_neg h0]
  rw[A8c h0] at h1
  exact⟨h1,h.es⟩
theorem B3I{s:Ps}{stop:Int}(h:pkE stop≠0):paP s stop=s:=by
 unfold paP
 rw[if_neg (fun e=>h e.1)]
 have:¬(0≤stop∧stop≤3):=fun e=>h (by unfold pkE;rw[if_pos e])
 unfold pkD pkF
 rw[if_neg EE,if_neg EE,if_neg EE,if_neg EE]
def crPE(s:Ps)(keep:Int):Int:=A0D s.d s.sf keep
def crP(s:Ps)(keep:Int):Ps:=if crPE s keep=0 then⟨s.nm,cfLT s.tx s.d s.sf keep,craD s.d s.sf keep,craF s.d s.sf keep,[],[]⟩ else s
theorem PsOk.cr{s:Ps}(h:PsOk s)(keep:Int):PsOk (crP s keep):=by
 have h1:=h.lf.crash' keep
 by_cases h0:crPE s keep=0
 ·unfold crP
  rw[if_pos h0]
  exact⟨h1,EsOk.bare h1.text⟩
 ·unfold crP
  rw[if_neg h0];exact h
def mkE(s t:ByteArray):Int:=if 200<s.size∨200<t.size then 2 else if 20<A3C s t then 11 else 0
def mkL(s t:ByteArray):List Ed:=edOf (L s) (L t) 0 0 (A5e s t)
def mkPE(s:Ps)(t:ByteArray):Int:=if mkE s.tx t=0 then edPE s (mkL s.tx t) else mkE s.tx t
def mkP(s:Ps)(t:ByteArray):Ps:=if mkE s.tx t=0 then edP s (mkL s.tx t) else s
theorem PsOk.mk_{s:Ps}(h:PsOk s)(t:ByteArray):PsOk (mkP s t):=by
 unfold mkP
 split
 ·exact h.ed _
 ·exact h
structure Dd where
 kind:Int
 num:Int
 name:ByteArray
 text:ByteArray
 A:Option Addr
 m:Nat
 c:Nat
 l:List Ed
def A1B(b:UInt8):Bool:=decide (97≤b.toNat)&&decide (b.toNat≤122)
def A0K(s:ByteArray):Bool:=decide (0<s.size)&&decide (s.size≤8)&&(L s).all A1B
def pgE(s:Ps)(x:Dd):Int:=
 if x.kind=2 then edPE s x.l else if x.kind=3 then unPE s else if x.kind=4 then rePE s else if x.kind=5 then 0 else if x.kind=6 then pkE x.num else if x.kind=7 then crPE s x.num else mkPE s x.text
def pgP(s:Ps)(x:Dd):Ps:=
 if x.kind=2 then edP s x.l else if x.kind=3 then unP s else if x.kind=4 then reP s else if x.kind=5 then svP s else if x.kind=6 then paP s x.num else if x.kind=7 then crP s x.num else mkP s x.text
theorem PsOk.pg{s:Ps}(h:PsOk s)(x:Dd):PsOk (pgP s x):=by
 unfold pgP
 repeat' split
 ·exact h.ed _
 ·exact h.un
 ·exact h.re
 ·exact h.sv
 ·exact h.pa _
 ·exact h.cr _
 ·exact h.mk_ _
def fnd(nm:ByteArray)(P:List Ps):Nat:=P.findIdx fun s=>decide (L s.nm=L nm)
def hsE(P:List Ps)(x:Dd):Int:=
 if x.kind<1∨10<x.kind then 1 else if A0K x.name=false then 3 else
 if x.kind=1 then(if fnd x.name P<P.length then 10 else if 6≤P.length then 11 else if 200<x.text.size then 2 else 0) else
 if h:fnd x.name P<P.length then(if x.kind=8∨x.kind=9 then 0 else pgE P[fnd x.name P] x) else 4
def hsT(P:List Ps)(x:Dd):ByteArray:=
 if h:x.kind=8∧A0K x.name=true∧fnd x.name P<P.length then(P[fnd x.name P]'h.2.2).tx else⟨#[]⟩
def hsP(P:List Ps)(x:Dd):List Ps:=
 if x.kind<1∨10<x.kind then P else if A0K x.name=false then P else
 if x.kind=1 then(if fnd x.name P<P.length then P else if 6≤P.length then P else if 200<x.text.size then P else P++ [A2z x.name x.text]) else
 if h:fnd x.name P<P.length then(if x.kind=8 then P else if x.kind=9 then P.eraseIdx (fnd x.name P) else P.set (fnd x.name P) (pgP P[fnd x.name P] x)) else P
structure HsOk (P:List Ps):Prop where
 pg:∀s∈P,PsOk s
 n:P.length≤6
theorem HsOk.nil_:HsOk []:=⟨fun s h=>absurd h EH,by simp⟩
theorem HsOk.step{P:List Ps}(h:HsOk P)(x:Dd):HsOk (hsP P x):=by
 unfold hsP
 split
 ·exact h
 split
 ·exact h
 split
 ·split
  ·exact h
  split
  ·exact h
  split
  ·exact h
  ·rename_i h1 h2 h3
   refine⟨fun s hs=> ?_,by rw[AJ,Ah];omega⟩
   rcases Af.1 hs with hs|hs
   ·exact h.pg s hs
   ·rw[Ax.1 hs];exact PsOk.new_ EE
 split
 ·rename_i hk
  split
  ·exact h
  split
  ·exact⟨fun s hs=>h.pg s (CU hs),by have:=h.n;rw[List.length_eraseIdx];split<;>omega⟩
  ·refine⟨fun s hs=> ?_,by rw[Bj];exact h.n⟩
   rcases Ci hs with hs|hs
   ·exact h.pg s hs
   ·rw[hs];exact(h.pg _ (Ac hk)).pg x
 ·exact h
theorem Blk.neH{w:World}{g g':Nat}{t t':TypeId}{cs cs':Array Value}(h:Blk w g t cs)(h':Blk w g' t' cs')(hne:t≠t'):g≠g':=by
 intro e;subst e
 unfold Blk at h h'
 rw[h] at h'
 injection h' with h'
 injection h' with _ ht
 exact hne ht
theorem Blk.chgH{w w':World}{K:Nat→Prop}{g:Nat}{t:TypeId}{cs:Array Value}(h:Blk w g t cs)(hc:Chg w w' K)(hK:¬K g):Blk w' g t cs:=(hc.block g h.lt hK).trans h
theorem Chg.gbsH{w w':World}{rs:List Nat}(h:Gbs w w' rs):Chg w w' (fun k=>k∈rs):=⟨h.os,h.tape,h.output,h.size,h.block⟩
theorem Chg.monoH{w w':World}{K K':Nat→Prop}(h:Chg w w' K)(hK:∀k,k<w.heap.size→K k→K' k):Chg w w' K':=⟨h.os,h.tape,h.output,h.size,fun k hk hn=>h.block k hk fun h'=>hn (hK k hk h')⟩
theorem Chg.reflH(w:World)(K:Nat→Prop):Chg w w K:=⟨rfl,rfl,rfl,AD _,fun _ _ _=>rfl⟩
theorem Chg.thenH{w w' w2:World}{K:Nat→Prop}(h:Chg w w' K)(hb:Below w'.heap.size w' w2):Chg w w2 K:=h.trans (Chg.of_below hb K) fun _ hk _=>hk
theorem Chg.ofB{w w':World}{K:Nat→Prop}(h:Below w.heap.size w w'):Chg w w' K:=Chg.of_below h K
def tyOf(w:World)(k:Nat)(t:TypeId):Prop:=∃cs,w.heap[k]? =some (.cells cs t (0,0))
theorem tyOf.lt{w:World}{k:Nat}{t:TypeId}(h:tyOf w k t):k<w.heap.size:=by
 obtain⟨cs,h⟩:=h
 exact(Ay.1 h).1
theorem tyOf.ne{w:World}{k:Nat}{t t':TypeId}(h:tyOf w k t)(h':tyOf w k t'):t=t':=by
 obtain⟨cs,h⟩:=h
 obtain⟨cs',h'⟩:=h'
 rw[h] at h'
 injection h' with h'
 injection h' with _ ht
theorem Blk.ty{w:World}{g:Nat}{t:TypeId}{cs:Array Value}(h:Blk w g t cs):tyOf w g t:=⟨cs,h⟩
theorem OwnO.ty{w:World}{base:Nat}{e:TypeId}{size n:Nat}{v:Value}{xs:List Value}(h:OwnO w base e size v n xs){k:Nat}(hk:v.ownBlock=some k):tyOf w k e:=by
 rcases h.2 with⟨rfl,_⟩|⟨g,o,cap,cur,rfl,_,h3,_⟩
 ·simp[Value.ownBlock] at hk
 ·simp only[Value.ownBlock,Option.some.injEq] at hk
  subst hk
  exact⟨cur,h3⟩
structure Pc where
 s:Ps
 ge:Nat
 gf:Nat
 gl:Nat
 vB:Value
 vO:Value
def Pc.cells(p:Pc):List Value:=[.string p.s.nm,.pointer (some ⟨p.ge,0,none⟩),.pointer (some ⟨p.gf,0,none⟩)]
def A1j(l:List Pc):List Value:=l.flatMap Pc.cells
theorem B1T(p:Pc):p.cells.length=3:=rfl
theorem A9D(a b:List Pc):A1j (a++b)=A1j a++A1j b:=by simp[A1j]
theorem pc_one(l:List Pc):∀u∈A1j l,u.oneCell'=true:=by
 intro u hu
 unfold A1j at hu
 obtain⟨x,_,hx⟩:=List.mem_flatMap.1 hu
 simp only[Pc.cells,Br,Dl,or_false] at hx
 rcases hx with rfl|rfl|rfl<;>rfl
def foot(p:Pc)(k:Nat):Prop:=EdK p.ge p.vB p.vO k∨k=p.gf∨k=p.gl
structure PgAt (w:World) (base:Nat) (p:Pc):Prop where
 ed:EdSt w base p.ge p.s.es p.vB p.vO
 lf:LeafAt w p.gf p.gl p.s.tx p.s.d p.s.sf
 bf:base≤p.gf
 bl:base≤p.gl
section
variable {w w':World} {base:Nat} {p:Pc} {K:Nat→Prop}
theorem EdSt.ty{g:Nat}{s:Es}{vB vO:Value}(h:EdSt w base g s vB vO){k:Nat}(hk:EdK g vB vO k):tyOf w k 123∨tyOf w k 9:=by
 rcases hk with rfl|hk|hk
 ·exact .inl h.blk.ty
 ·exact .inr (h.b.ty hk)
 ·exact .inr (h.o.ty hk)
theorem EdSt.lowK{g:Nat}{s:Es}{vB vO:Value}(h:EdSt w base g s vB vO){k:Nat}(hk:EdK g vB vO k):base≤k:=by
 rcases hk with rfl|hk|hk
 ·exact h.lo
 ·exact(h.b.lt k hk).1
 ·exact(h.o.lt k hk).1
theorem LeafAt.ty{g gl sf:Nat}{tx d:ByteArray}(h:LeafAt w g gl tx d sf){k:Nat}(hk:k=g∨k=gl):tyOf w k 127∨tyOf w k 187:=by
 rcases hk with rfl|rfl
 ·exact .inl h.leaf.ty
 ·exact .inr (Blk.ty h.log)
theorem PgAt.ty(h:PgAt w base p){k:Nat}(hk:foot p k):∃t,tyOf w k t∧(t=123∨t=9∨t=127∨t=187):=by
 rcases hk with hk|hk
 ·rcases h.ed.ty hk with h|h
  ·exact⟨_,h,.inl rfl⟩
  ·exact⟨_,h,.inr (.inl rfl)⟩
 ·rcases h.lf.ty hk with h|h
  ·exact⟨_,h,.inr (.inr (.inl rfl))⟩
  ·exact⟨_,h,.inr (.inr (.inr rfl))⟩
theorem PgAt.lt(h:PgAt w base p){k:Nat}(hk:foot p k):base≤k∧k<w.heap.size:=by
 obtain⟨t,ht,_⟩:=h.ty hk
 refine⟨?_,ht.lt⟩
 rcases hk with hk|rfl|rfl
 ·exact h.ed.lowK hk
 ·exact h.bf
 ·exact h.bl
theorem PgAt.off(h:PgAt w base p){k:Nat}{t:TypeId}(ht:tyOf w k t)(h1:t≠123)(h2:t≠9)(h3:t≠127)(h4:t≠187):¬foot p k:=by
 intro hk
 obtain⟨t',h',h5⟩:=h.ty hk
 have:=ht.ne h'
 subst this
 rcases h5 with h5|h5|h5|h5
 ·exact h1 h5
 ·exact h2 h5
 ·exact h3 h5
 ·exact h4 h5
theorem EdSt.chgH{g:Nat}{s:Es}{vB vO:Value}(h:EdSt w base g s vB vO)(hc:Chg w w' K)(hK:∀k,EdK g vB vO k→¬K k):EdSt w' base g s vB vO:=
 ⟨h.blk.chgH hc (hK _ (.inl rfl)),h.lo,h.b.chg hc fun k hk=>hK k (.inr (.inl hk)),h.o.chg hc fun k hk=>hK k (.inr (.inr hk)),h.ap⟩
theorem LeafAt.chgH{g gl sf:Nat}{tx d:ByteArray}(h:LeafAt w g gl tx d sf)(hc:Chg w w' K)(h1:¬K g)(h2:¬K gl):LeafAt w' g gl tx d sf:=⟨h.leaf.chgH hc h1,Blk.chgH h.log hc h2,h.ne⟩
theorem PgAt.chg(h:PgAt w base p)(hc:Chg w w' K)(hK:∀k,foot p k→¬K k):PgAt w' base p:=
 ⟨h.ed.chgH hc fun k hk=>hK k (.inl hk),h.lf.chgH hc (hK _ (.inr (.inl rfl))) (hK _ (.inr (.inr rfl))),h.bf,h.bl⟩
theorem PgAt.below(h:PgAt w base p)(hb:Below w.heap.size w w'):PgAt w' base p:=⟨h.ed.below hb,h.lf.below hb,h.bf,h.bl⟩
theorem EdSt.leafed{g gf gl sf:Nat}{s:Es}{vB vO:Value}{tx d:ByteArray}(h:EdSt w base g s vB vO)(hl:LeafAt w gf gl tx d sf)(hg:Gbs w w' [gf,gl]):EdSt w' base g s vB vO:=
 h.chgH (Chg.gbsH hg) fun k hk hm=>by
  have h1:=h.ty hk
  have h2:=hl.ty (k:=k) (by simpa using hm)
  rcases h1 with h1|h1<;>rcases h2 with h2|h2<;>exact absurd (h1.ne h2) (by decide)
theorem LeafAt.edited{g gf gl sf:Nat}{s:Es}{vB vO:Value}{tx d:ByteArray}(hl:LeafAt w gf gl tx d sf)(h:EdSt w base g s vB vO)(hc:Chg w w' (EdK g vB vO)):LeafAt w' gf gl tx d sf:=by
 refine hl.chgH hc (fun hk=> ?_) (fun hk=> ?_)
 ·rcases h.ty hk with h1|h1<;>exact absurd (h1.ne hl.leaf.ty) EF
 ·rcases h.ty hk with h1|h1<;>exact absurd (h1.ne (Blk.ty hl.log)) (by decide)
end
structure HsAt (w:World) (base gh:Nat) (v:Value) (ps:List Pc):Prop where
 blk:Blk w gh 57 #[v]
 lo:base≤gh
 row:OwnO w base 61 3 v ps.length (A1j ps)
 pg:∀p∈ps,PgAt w base p
 dis:ps.Pairwise fun p q=>∀k,foot p k→¬foot q k
def HK(gh:Nat)(v:Value)(ps:List Pc)(k:Nat):Prop:=k=gh∨v.ownBlock=some k∨∃p∈ps,foot p k
section
variable {w w':World} {base gh:Nat} {v:Value} {ps:List Pc} {K:Nat→Prop}
theorem HsAt.rowTy(h:HsAt w base gh v ps){k:Nat}(hk:v.ownBlock=some k):tyOf w k 61:=h.row.ty hk
theorem HsAt.lt(h:HsAt w base gh v ps){k:Nat}(hk:HK gh v ps k):base≤k∧k<w.heap.size:=by
 rcases hk with rfl|hk|⟨p,hp,hk⟩
 ·exact⟨h.lo,h.blk.lt⟩
 ·exact⟨(h.row.lt k hk).1,(h.rowTy hk).lt⟩
 ·exact(h.pg p hp).lt hk
theorem HsAt.below(h:HsAt w base gh v ps)(hb:Below w.heap.size w w'):HsAt w' base gh v ps:=
 ⟨h.blk.below' hb,h.lo,h.row.below hb,fun p hp=>(h.pg p hp).below hb,h.dis⟩
theorem HsAt.bel(h:HsAt w base gh v ps)(hc:Chg w w' (HK gh v ps))(hb:base≤w.heap.size):Below base w w':=
 ⟨hc.os,hc.tape,hc.output,hc.size,fun k hk=>hc.block k EE fun h'=>by have:=(h.lt h').1;omega⟩
theorem A7h{l:List Pc}(h:l.Pairwise fun p q=>∀k,foot p k→¬foot q k){i j:Nat}(hi:i<l.length)(hj:j<l.length)(hij:i≠j){k:Nat}(h1:foot l[i] k):¬foot l[j] k:=by
 rcases CT i j with h2|h2
 ·exact DO.1 h i j hi hj h2 k h1
 ·exact fun h3=>DO.1 h j i hj hi EE k h3 h1
theorem B3J{l:List Pc}(h:l.Pairwise fun p q=>∀k,foot p k→¬foot q k){i:Nat}(hi:i<l.length){p':Pc}{N:Nat}(hN:∀q∈l,∀k,foot q k→k<N)(hf:∀k,foot p' k→foot l[i] k∨N≤k):
 (l.set i p').Pairwise fun p q=>∀k,foot p k→¬foot q k:=by
 rw[DO]
 intro a b ha hb hab k h1 h2
 rw[Bj] at ha hb
 rw[Do] at h1 h2
 split at h1
 ·rename_i e
  subst e
  rw[if_neg EE] at h2
  rcases hf k h1 with h3|h3
  ·exact A7h h ha hb EE h3 h2
  ·have:=hN _ (Ac hb) k h2;omega
 ·split at h2
  ·rename_i e
   subst e
   rcases hf k h2 with h3|h3
   ·exact A7h h hb ha EE h3 h1
   ·have:=hN _ (Ac ha) k h1;omega
  ·exact A7h h ha hb EE h1 h2
theorem B1U{l:List Pc}{i:Nat}(hi:i<l.length){p':Pc}(hp:p'.cells=l[i].cells):A1j (l.set i p')=A1j l:=by
 unfold A1j
 induction l generalizing i with
 |nil=>rfl
 |cons x l ih=>
  cases i with
  |zero=>rw[AE,BI,BI,hp];rfl
  |succ i=>rw[AF,BI,BI,ih (by simpa using hi) (by simpa using hp)]
theorem HsAt.offBox(h:HsAt w base gh v ps){p:Pc}(hp:p∈ps):¬foot p gh:=(h.pg p hp).off h.blk.ty EF EF EF (by decide)
theorem HsAt.offRow(h:HsAt w base gh v ps){p:Pc}(hp:p∈ps){k:Nat}(hk:v.ownBlock=some k):¬foot p k:=(h.pg p hp).off (h.rowTy hk) EF EF EF (by decide)
theorem HsAt.boxRow(h:HsAt w base gh v ps):v.ownBlock=none∨v.ownBlock≠some gh:=h.row.ne_blk h.blk (by decide)
theorem HsAt.page(h:HsAt w base gh v ps){i:Nat}(hi:i<ps.length){p':Pc}(hp:PgAt w' base p')(hc:Chg w w' (foot ps[i]))(hf:∀k,foot p' k→foot ps[i] k∨w.heap.size≤k)(he:p'.cells=ps[i].cells):
 HsAt w' base gh v (ps.set i p'):=by
 have hm:=Ac hi
 refine⟨h.blk.chgH hc (h.offBox hm),h.lo, ?_,fun q hq=> ?_,B3J h.dis hi (fun q hq k hk=>((h.pg q hq).lt hk).2) hf⟩
 ·rw[Bj,B1U hi he]
  exact h.row.chg hc fun k hk=>h.offRow hm hk
 ·obtain⟨j,hj,rfl⟩:=List.getElem_of_mem hq
  rw[Bj] at hj
  rw[Do]
  split
  ·exact hp
  ·rename_i hij
   exact(h.pg _ (Ac hj)).chg hc fun k h1 h2=>A7h h.dis hj hi (fun e=>hij e.symm) h1 h2
theorem HK.set_{i:Nat}(hi:i<ps.length){p':Pc}{N:Nat}(hf:∀k,foot p' k→foot ps[i] k∨N≤k):∀k,HK gh v (ps.set i p') k→HK gh v ps k∨N≤k:=by
 rintro k (rfl|hk|⟨q,hq,hk⟩)
 ·exact .inl (.inl rfl)
 ·exact .inl (.inr (.inl hk))
 ·rcases Ci hq with hq|rfl
  ·exact .inl (.inr (.inr ⟨q,hq,hk⟩))
  ·rcases hf k hk with hk|hk
   ·exact .inl (.inr (.inr ⟨_,Ac hi,hk⟩))
   ·exact .inr hk
theorem HK.ofPage{i:Nat}(hi:i<ps.length){k:Nat}(hk:foot ps[i] k):HK gh v ps k:= .inr (.inr ⟨_,Ac hi,hk⟩)
end
theorem B4u(w:World):Calls Tryz.prog 6 #[] w fun e w'=>e= .returned (.pointer (some ⟨w.heap.size,0,none⟩))∧HsAt w' w.heap.size w.heap.size (.slice none 0 0) []∧Below w.heap.size w w':=by
 have HB:Hid (HsAt (w.alloc (.cells #[.slice none 0 0] 57)) w.heap.size w.heap.size (.slice none 0 0) []):=
  ⟨Blk.new_ _ _ _,AD _,OwnO.nil_,(fun p h=>absurd h EH),List.Pairwise.nil⟩
 go_enter Tryz.func6,Tryz.ntmps6
 go_wp2_with fail
 go_ret
 exact⟨rfl,HB.out,Ds⟩
theorem A6H{f:UInt8→Bool}{l:List UInt8}{k:Nat}(h:k<l.length):(l.take (k+1)).all f=((l.take k).all f&&f (l.getD k 0)):=by
 rw[Aa h,List.all_append,AK,AL h]
 simp
theorem A6g{f:UInt8→Bool}{l:List UInt8}{k:Nat}(h:k<l.length)(hf:f (l.getD k 0)=false):l.all f=false:=by
 rw[List.all_eq_false]
 refine⟨l[k],Ac h, ?_⟩
 rw[AK,AL h] at hf
 simpa using hf
theorem A1y(s:ByteArray)(w:World)(hs:s.size≤9223372036854775807):
 Calls Tryz.prog 18 #[.string s] w fun e w'=>e= .returned (.int .i64 (if A0K s then 0 else 3))∧Below w.heap.size w w':=by
 by_cases h1:s.size<1
 ·have HV:Hid ((if A0K s then(0:Int) else 3)=3):=by
   unfold Hid A0K
   rw[AC EE]
   rfl
  have g1:decide ((s.size:Int)<1)=true:=AG EE
  exact C2m
 by_cases h2:8<s.size
 ·have HV:Hid ((if A0K s then(0:Int) else 3)=3):=by
   unfold Hid A0K
   rw[AC (p:=s.size≤8) EE,Cj]
   rfl
  have g1:decide ((s.size:Int)<1)=false:=AC EE
  have g2:decide ((8:Int)<(s.size:Int))=true:=AG EE
  exact C2m
 have HN:Hid (A0K s=(L s).all A1B):=by
  unfold Hid A0K
  exact B9Z
 obtain⟨z,hz⟩:∃z,(if A0K s then(0:Int) else 3)=z:=⟨_,rfl⟩
 rw[hz]
 have HZ:=AA hz
 clear hz
 have g1:decide ((s.size:Int)<1)=false:=AC EE
 have g2:decide ((8:Int)<(s.size:Int))=false:=AC EE
 have hcv:=fun W=>CY (P:=Tryz.prog) W 9 119 5 s Tryz.underlying9 Tryz.underlying119 Tryz.underlying5
 go_enter Tryz.func18,Tryz.ntmps18
 go_wp2_with fail
 have hW:Below w.heap.size w (Lib.bytesWorld w 5 s):=A1V w _ s
 have hcells:=DK w 5 s
 generalize Lib.bytesWorld w 5 s=w1 at hW hcells⊢
 have Hc:=AA hcells;clear hcells
 clear hcv
 have HLL:Hid ((L s).length=s.size):=A0e s
 go_loopw [16] (fun iv wr=>∃k:Nat,k≤s.size∧iv= .int .i64 (k:Int)∧Hid (((L s).take k).all A1B=true)∧wr=w1) (fun iv _=>s.size-(intOf iv).toNat)
 case atStart=>exact⟨0,AS _,rfl,by rw[Hid,Bs];rfl,rfl⟩
 case round=>
  obtain⟨k,hk,rfl,HT,rfl⟩:=hrel
  by_cases hlt:k<s.size
  ·have g3:decide ((k:Int)<(s.size:Int))=true:=AG EE
   have g3':decide (k<s.size)=true:=AG hlt
   have hc:=Hc.out k hlt
   have hb:(s.data.toList.getD k 0).toNat<256:=CH _
   have HLK:Hid (k<(L s).length):=by rw[Hid,HLL.out];exact hlt
   have HTK:=AA (A6H (f:=A1B) HLK.out)
   have HFF:=AA (fun h=>A6g (f:=A1B) HLK.out h)
   have HX:Hid (s.data.toList.getD k 0=(L s).getD k 0):=rfl
   rw[HX.out] at hc hb
   generalize(L s).getD k 0=x at*
   clear HX
   by_cases h3:x.toNat<97
   ·have HF:Hid ((L s).all A1B=false):=HFF.out (by unfold A1B;rw[AC EE];rfl)
    have g4:decide ((x.toNat:Int)<97)=true:=AG EE
    have g4':decide (x.toNat<97)=true:=AG h3
    clear HTK HFF
    exact C1y
   by_cases h4:122<x.toNat
   ·have HF:Hid ((L s).all A1B=false):=HFF.out (by unfold A1B;rw[AC (p:=x.toNat≤122) EE,Cj])
    have g4:decide ((x.toNat:Int)<97)=false:=AC EE
    have g4':decide (x.toNat<97)=false:=AC h3
    have g5:decide ((122:Int)<(x.toNat:Int))=true:=AG EE
    have g5':decide (122<x.toNat)=true:=AG h4
    clear HTK HFF
    exact C1y
   have HT2:Hid (((L s).take (k+1)).all A1B=true):=by
    rw[Hid,HTK.out,HT.out,Bool.true_and]
    unfold A1B
    exact B9Z
   have g4:decide ((x.toNat:Int)<97)=false:=AC EE
   have g4':decide (x.toNat<97)=false:=AC h3
   have g5:decide ((122:Int)<(x.toNat:Int))=false:=AC EE
   have g5':decide (122<x.toNat)=false:=AC h4
   clear HTK HFF
   go_wp2_with fail
   go_roundw
   case rel=>exact⟨k+1,by omega,by go_num,HT2.out,by first|rfl|trivial⟩
   case measure=>simp[intOf];omega
  ·obtain rfl:k=s.size:=EE
   have HF:Hid ((L s).all A1B=true):=by
    have h:=HT.out
    rwa[AX (by rw[HLL.out];exact AD _)] at h
   exact C1y
theorem A2Y{w:World}{B n k:Nat}{A:Option Addr}{l:List Pc}(h:Rd w B 3 A n (A1j l))(hl:k<l.length)(hn:l.length=n):∃ad,A=some ad∧ad.block<B∧w.cell? (ad.add (k*3))=some (.string l[k].s.nm)∧w.cell? ⟨(ad.add (k*3)).block,(ad.add (k*3)).off+1,none⟩=some (.pointer (some ⟨l[k].ge,0,none⟩))∧
 w.cell? ⟨(ad.add (k*3)).block,(ad.add (k*3)).off+2,none⟩=some (.pointer (some ⟨l[k].gf,0,none⟩)):=by
 obtain⟨ad,hl',e,hb,hc⟩:=Rd.at_rec B1T EE h (k:=k) EE
 refine⟨ad,e,hb,hc 0 _ rfl, ?_, ?_⟩
 ·have h1:=hc 1 _ rfl
  rwa[←A2A] at h1
 ·have h1:=hc 2 _ rfl
  rwa[←A2A] at h1
theorem B3a(p:Pc)(nm:ByteArray)(g:Nat)(w:World)(hg:g<w.heap.size)(hc:w.cell? ⟨g,2,none⟩=some (.string nm)):
 Calls Tryz.prog 20 #[.agg #[.string p.s.nm,.pointer (some ⟨p.ge,0,none⟩),.pointer (some ⟨p.gf,0,none⟩)],.pointer (some ⟨g,0,none⟩)] w fun e w'=>e= .returned (.bool (decide (L p.s.nm=L nm)))∧Below w.heap.size w w':=by
 have HE:Hid ((p.s.nm.toList==nm.toList)=decide (L p.s.nm=L nm)):=by
  exact C0e
 have hc1:(w.alloc (.cells #[.string p.s.nm,.pointer (some ⟨p.ge,0,none⟩),.pointer (some ⟨p.gf,0,none⟩)] 61)).cell? ⟨g,2,none⟩=some (.string nm):=(BQ _ _ _ hg).trans hc
 rw[←HE.out]
 obtain⟨⟨pn,ptx,pd,psf,pb,po⟩,pge,pgf,pgl,pvB,pvO⟩:=p
 go_enter Tryz.func20,Tryz.ntmps20
 go_wp2_with fail
 go_ret
 exact⟨rfl,Ds⟩
def refV(e:Int):Value:= .iface 160 (.agg #[.int .i64 e])
def A3K(e:Int):Ending:= .panicked [{v:=refV e,recovered:=false}]
theorem A5j(w:World):Calls Tryz.prog 94 #[.int .i64 0] w fun e w'=>e= .returned (.tuple #[])∧w'=w:=by
 go_enter Tryz.func94,Tryz.ntmps94
 go_wp2_with fail
 go_end0
 exact⟨rfl,rfl⟩
theorem A1f(x:Int)(hx:x≠0)(w:World):Calls Tryz.prog 94 #[.int .i64 x] w fun e w'=>e= .panicked [{v:=refV x,recovered:=false}]∧w'=w:=by
 have hb:(x==0)=false:=AH.2 hx
 have hb':(x !=0)=true:=Be.2 hx
 go_enter Tryz.func94,Tryz.ntmps94
 go_wp2_with fail
 exact⟨rfl,rfl,rfl⟩
def dgtB(b:UInt8):Bool:=decide (48≤b.toNat)&&decide (b.toNat≤57)
def dig3(t:List UInt8):Bool:=decide (0<t.length)&&decide (t.length≤3)&&t.all dgtB
def numV(t:List UInt8):Nat:=t.foldl (fun n c=>10*n+(c.toNat-48)) 0
theorem B0m(t:List UInt8)(b:UInt8):numV (t++ [b])=10*numV t+(b.toNat-48):=by unfold numV;rw[Dc];rfl
theorem B3K:∀(n:Nat) (t:List UInt8),t.length≤n→t.all dgtB=true→numV t<10^n
 |0,t,h,_=>by
  obtain rfl:t=[]:=AU EE
  decide
 |n+1,t,h,ha=>by
  rcases List.eq_nil_or_concat t with rfl|⟨t',b,rfl⟩
  ·show 0<10^(n+1)
   exact Nat.pow_pos EF
  ·rw[List.concat_eq_append] at h ha⊢
   rw[List.all_append,Ai] at ha
   rw[AJ,Ah] at h
   have ih:=B3K n t' EE ha.1
   have hb:dgtB b=true:=by simpa using ha.2
   unfold dgtB at hb
   simp only[Ai,CV] at hb
   rw[B0m,Dq]
   omega
def A1U(t:List UInt8):Ending:=if dig3 t=true then .returned (.int .i64 (numV t:Int)) else A3K 12
theorem A3D{t:List UInt8}(h:dig3 t=false):A1U t=A3K 12:=by unfold A1U;rw[h];rfl
theorem A0F(s:ByteArray)(w:World)(hs:s.size≤9223372036854775807):
 Calls Tryz.prog 147 #[.string s] w fun e w'=>e=A1U (L s)∧Below w.heap.size w w':=by
 have HLL:Hid ((L s).length=s.size):=A0e s
 have HMU:=AA (fun W=>A1f 12 EF W)
 by_cases h1:s.size<1
 ·have HV:Hid (dig3 (L s)=false):=by
   unfold Hid dig3
   rw[HLL.out,AC (p:=0<s.size) EE]
   rfl
  have g1:decide ((s.size:Int)<1)=true:=AG EE
  exact C1w
 by_cases h2:3<s.size
 ·have HV:Hid (dig3 (L s)=false):=by
   exact C0j
  have g1:decide ((s.size:Int)<1)=false:=AC EE
  have g2:decide ((3:Int)<(s.size:Int))=true:=AG EE
  exact C1w
 have HN:Hid (dig3 (L s)=(L s).all dgtB):=by
  unfold Hid dig3
  rw[HLL.out,AG EE,AG EE]
  rfl
 have g1:decide ((s.size:Int)<1)=false:=AC EE
 have g2:decide ((3:Int)<(s.size:Int))=false:=AC EE
 have hcv:=fun W=>CY (P:=Tryz.prog) W 9 119 5 s Tryz.underlying9 Tryz.underlying119 Tryz.underlying5
 go_enter Tryz.func147,Tryz.ntmps147
 go_wp2_with fail
 have hW:Below w.heap.size w (Lib.bytesWorld w 5 s):=A1V w _ s
 have hcells:=DK w 5 s
 generalize Lib.bytesWorld w 5 s=w1 at hW hcells⊢
 have Hc:=AA hcells;clear hcells
 clear hcv
 go_loopw [3,18] (fun nv iv wr=>∃(k n:Nat),k≤s.size∧nv= .int .i64 (n:Int)∧n<1000∧(k<s.size→n<100)∧iv= .int .i64 (k:Int)∧Hid (((L s).take k).all dgtB=true∧n=numV ((L s).take k))∧wr=w1) (fun _ iv _=>s.size-(intOf iv).toNat)
 case atStart=>exact⟨0,0,AS _,rfl,by decide,fun _=>by decide,rfl,by rw[Hid,Bs];exact⟨rfl,rfl⟩,rfl⟩
 case round=>
  obtain⟨k,n,hk,rfl,hn1,hn2,rfl,HT,rfl⟩:=hrel
  by_cases hlt:k<s.size
  ·have g3:decide ((k:Int)<(s.size:Int))=true:=AG EE
   have g3':decide (k<s.size)=true:=AG hlt
   have hc:=Hc.out k hlt
   have hb:(s.data.toList.getD k 0).toNat<256:=CH _
   have HLK:Hid (k<(L s).length):=by rw[Hid,HLL.out];exact hlt
   have HTK:=AA (A6H (f:=dgtB) HLK.out)
   have HFF:=AA (fun h=>A6g (f:=dgtB) HLK.out h)
   have HSN:Hid ((L s).take (k+1)=(L s).take k++ [(L s).getD k 0]):=by
    rw[Hid,Aa HLK.out,AK,AL HLK.out];rfl
   have HX:Hid (s.data.toList.getD k 0=(L s).getD k 0):=rfl
   rw[HX.out] at hc hb
   generalize(L s).getD k 0=x at*
   clear HX
   have hn3:=hn2 hlt
   by_cases h3:x.toNat<48
   ·have HF:Hid ((L s).all dgtB=false):=HFF.out (by unfold dgtB;rw[AC EE];rfl)
    have g4:decide ((x.toNat:Int)<48)=true:=AG EE
    have g4':decide (x.toNat<48)=true:=AG h3
    exact C1x
   by_cases h4:57<x.toNat
   ·have HF:Hid ((L s).all dgtB=false):=HFF.out (by unfold dgtB;rw[AC (p:=x.toNat≤57) EE,Cj])
    have g4:decide ((x.toNat:Int)<48)=false:=AC EE
    have g4':decide (x.toNat<48)=false:=AC h3
    have g5:decide ((57:Int)<(x.toNat:Int))=true:=AG EE
    have g5':decide (57<x.toNat)=true:=AG h4
    exact C1x
   have HT2:Hid (((L s).take (k+1)).all dgtB=true):=by
    rw[Hid,HTK.out,HT.out.1,Bool.true_and]
    unfold dgtB
    exact B9Z
   have HNV:Hid (10*n+(x.toNat-48)=numV ((L s).take (k+1))):=by rw[Hid,HSN.out,B0m,←HT.out.2]
   have hlen:((L s).take (k+1)).length≤k+1:=Cq _ _
   have HBD:Hid (k+1<s.size→10*n+(x.toNat-48)<100):=by
    intro h9
    have:=B3K 2 _ (AQ hlen EE) HT2.out
    rw[←HNV.out] at this
    omega
   have g4:decide ((x.toNat:Int)<48)=false:=AC EE
   have g4':decide (x.toNat<48)=false:=AC h3
   have g5:decide ((57:Int)<(x.toNat:Int))=false:=AC EE
   have g5':decide (57<x.toNat)=false:=AC h4
   clear HTK HFF HSN hn2 hlen
   go_wp2_with fail
   go_roundw
   case rel=>exact⟨k+1,10*n+(x.toNat-48),by omega,by go_num,by omega,HBD.out,by go_num,⟨HT2.out,HNV.out⟩,by first|rfl|trivial⟩
   case measure=>simp[intOf];omega
  ·obtain rfl:k=s.size:=EE
   have HF:Hid ((L s).all dgtB=true∧n=numV (L s)):=by
    have h:=HT.out
    rwa[AX (by rw[HLL.out];exact AD _)] at h
   have g3:decide ((s.size:Int)<(s.size:Int))=false:=AC EE
   clear HT
   go_wp2_with fail
   go_ret
   refine⟨?_,hW⟩
   unfold A1U
   rw[HN.out,HF.out.1,if_pos rfl,HF.out.2]
   rfl
end Go.Proofs.YtplgghjdidmcfaaGreatDoor
