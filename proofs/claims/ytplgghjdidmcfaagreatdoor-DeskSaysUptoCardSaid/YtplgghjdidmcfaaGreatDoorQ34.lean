/- Written anew, smaller, by a program of our own out of our texts. No condition of our own. -/
import Derived.Test.YtplgghjdidmcfaaGreatDoorQ22
import Derived.Test.YtplgghjdidmcfaaGreatDoorQ29
import Derived.Test.YtplgghjdidmcfaaGreatDoorQ25
set_option maxRecDepth 100000
set_option maxHeartbeats 16000000
set_option linter.all false
namespace Go.Proofs.YtplgghjdidmcfaaGreatDoor
def NmOk(P:List Ps):Prop:=∀s∈P,s.nm.size≤8
theorem NmOk.nil_:NmOk []:=fun s h=>by cases h
theorem pgP_nm(s:Ps)(x:Dd):(pgP s x).nm=s.nm:=by
 unfold pgP edP unP reP svP paP crP mkP edP
 repeat' split
 all_goals rfl
theorem B8n{s:ByteArray}(h:A0K s=true):s.size≤8:=by
 unfold A0K at h
 simp only[Ai,CV] at h
 exact h.1.2
theorem NmOk.step{P:List Ps}(h:NmOk P)(x:Dd):NmOk (hsP P x):=by
 unfold hsP
 split
 ·exact h
 split
 ·exact h
 rename_i hn
 have hn8:x.name.size≤8:=B8n (by simpa using hn)
 split
 ·repeat' split
  ·exact h
  ·exact h
  ·exact h
  ·intro s hs
   rcases Af.1 hs with hs|hs
   ·exact h s hs
   ·rw[Ax.1 hs];exact hn8
 split
 ·rename_i hlt
  split
  ·exact h
  split
  ·exact fun s hs=>h s (CU hs)
  ·intro s hs
   rcases Ci hs with hs|rfl
   ·exact h s hs
   ·rw[pgP_nm];exact h _ (Ac hlt)
 ·exact h
theorem NmOk.dk{P:List Ps}(h:NmOk P)(l:List (List UInt8)):NmOk (dkP P l):=by
 exact C0g
theorem B9a{l:List (List UInt8)}{n:Nat}(h:∀x∈l,x.length≤n):l.flatten.length≤n*l.length:=by
 induction l with
 |nil=>simp
 |cons a l ih=>
  rw[BD,AJ,AM,Nat.mul_succ]
  have h1:=h a EH
  have h2:=ih (fun x hx=>h x (by simp[hx]))
  omega
theorem A6B{P:List Ps}(h:NmOk P)(hn:P.length≤6):(Lib.join (hsN P) [32]).length≤54:=by
 have h1:=A8e (hsN P)
 have h2:(hsN P).flatten.length≤8*(hsN P).length:=B9a fun x hx=>by
  unfold hsN A5I at hx
  rw[List.mem_mergeSort] at hx
  obtain⟨s,hs,rfl⟩:=DA.1 hx
  rw[A0e];exact h s hs
 rw[B8X] at h1 h2
 omega
def rng(z:Int):Prop:=0≤z∧z≤1000
theorem B6E(n:Int)(p:Option Int)(x:Ed):rng (A3w n p x):=by
 unfold rng A3w
 repeat' split
 all_goals decide
theorem B2s(n:Int):∀(l:List Ed) (p:Option Int) (z:Int),rng (edGo n p z l)
 |[],p,z=>by
  unfold rng edGo
  split<;>decide
 |x::r,p,z=>by
  unfold edGo
  split
  ·exact B2s n r _ _
  ·exact B6E n p x
theorem B6F(n:Int)(l:List Ed):rng (A0n n l):=by
 unfold A0n
 split
 ·exact⟨by decide,by decide⟩
 split
 ·exact⟨by decide,by decide⟩
 ·exact B2s _ _ _ _
theorem A8Z(d rec:ByteArray):rng (A0t d rec):=by
 unfold rng A0t
 repeat' split
 all_goals decide
theorem B9b(tx d:ByteArray)(l:List Ed):rng (lfE tx d l):=by
 unfold lfE
 split
 ·exact A8Z _ _
 ·exact B6F _ _
theorem B3T(d t:ByteArray):rng (lsE d t):=by
 unfold lsE
 split
 ·exact⟨by decide,by decide⟩
 ·exact A8Z _ _
theorem B2t(s:Ps)(l:List Ed):rng (edPE s l):=by
 unfold edPE
 split
 ·exact⟨by decide,by decide⟩
 ·exact B9b _ _ _
theorem B9c(s:Ps)(x:Dd):rng (pgE s x):=by
 unfold pgE
 split
 ·exact B2t _ _
 split
 ·unfold unPE
  split
  ·exact⟨by decide,by decide⟩
  ·exact B3T _ _
 split
 ·unfold rePE
  split
  ·exact⟨by decide,by decide⟩
  ·exact B3T _ _
 split
 ·exact⟨by decide,by decide⟩
 split
 ·unfold rng pkE
  split<;>decide
 split
 ·unfold rng crPE A0D
  split<;>decide
 ·unfold mkPE
  split
  ·exact B2t _ _
  ·unfold rng mkE
   repeat' split
   all_goals decide
theorem A2D(P:List Ps)(x:Dd):rng (hsE P x):=by
 unfold hsE
 split
 ·exact⟨by decide,by decide⟩
 split
 ·exact⟨by decide,by decide⟩
 split
 ·repeat' split
  all_goals exact⟨by decide,by decide⟩
 split
 ·split
  ·exact⟨by decide,by decide⟩
  ·exact B9c _ _
 ·exact⟨by decide,by decide⟩
theorem B8o(w:List UInt8)(r:List (List UInt8)):rng (askE w r):=by
 unfold askE A1q
 repeat' split
 all_goals exact⟨by decide,by decide⟩
end Go.Proofs.YtplgghjdidmcfaaGreatDoor
namespace Go.Proofs.YtplgghjdidmcfaaGreatDoor
open Go.RowKit
structure DkAt (w:World) (base gh gd:Nat) (v:Value) (ps:List Pc):Prop where
 h:HsAt w base gh v ps
 b:Blk w gd 112 #[.pointer (some ⟨gh,0,none⟩)]
 n:¬HK gh v ps gd
 o:HsOk (ps.map Pc.s)
 s:base≤w.heap.size
section
variable {w w':World} {base gh gd:Nat} {v:Value} {ps:List Pc} {P:List Ps}
theorem DkAt.below(h:DkAt w base gh gd v ps)(hb:Below w.heap.size w w'):DkAt w' base gh gd v ps:=⟨h.h.below hb,h.b.below' hb,h.n,h.o,AQ h.s hb.size⟩
theorem DkAt.to(h:DkAt w base gh gd v ps)(ht:HsTo w w' base gh v ps P)(ho:HsOk P):∃v' ps',DkAt w' base gh gd v' ps'∧ps'.map Pc.s=P∧∀k,HK gh v' ps' k→HK gh v ps k∨w.heap.size≤k:=by
 obtain⟨v',ps',h1,h2,h3⟩:=ht.ex
 refine⟨v',ps',⟨h1,h.b.chgH ht.chg h.n,fun hk=> ?_,by rw[h2];exact ho,AQ h.s ht.chg.size⟩,h2,h3⟩
 rcases h3 _ hk with h4|h4
 ·exact h.n h4
 ·exact absurd h.b.lt (by omega)
end
theorem A1o{P:List Ps}(h:HsOk P)(x:Dd):(hsT P x).size≤200:=by
 unfold hsT
 split
 ·rename_i hx
  have:=(h.pg _ (Ac hx.2.2)).es.t
  simp only[Ps.es] at this
  rwa[A0e] at this
 ·exact AS _
def A5h(P:List Ps)(x:Dd):Ending:=if hsE P x=0 then .returned (.tuple #[.string (S (if x.kind=8 then 58::L (hsT P x) else [111,107])),.bool true]) else .panicked [{v:=refV (hsE P x),recovered:=false}]
theorem A2k{P:List Ps}{x:Dd}(h:hsE P x≠0):A5h P x= .panicked [{v:=refV (hsE P x),recovered:=false}]:=by unfold A5h;rw[if_neg h]
theorem A2P{P:List Ps}{x:Dd}(h:hsE P x=0)(hk:x.kind≠8):A5h P x= .returned (.tuple #[.string ⟨#[111,107]⟩,.bool true]):=by unfold A5h;rw[if_pos h,if_neg hk];rfl
theorem B4M{P:List Ps}{x:Dd}(h:hsE P x=0)(hk:x.kind=8):A5h P x= .returned (.tuple #[.string (⟨#[58]⟩++hsT P x),.bool true]):=by
 unfold A5h
 rw[if_pos h,if_pos hk]
 have:S (58::L (hsT P x))=⟨#[58]⟩++hsT P x:=(A1i ⟨#[58]⟩ (hsT P x)).symm
 rw[this]
abbrev A3h(w:World)(base gh:Nat)(v:Value)(ps:List Pc)(x:Dd):Ending→World→Prop:=fun e w'=>e=A5h (ps.map Pc.s) x∧HsTo w w' base gh v ps (hsP (ps.map Pc.s) x)
theorem A2d{w:World}{gh base:Nat}{v:Value}{ps:List Pc}(h:HsAt w base gh v ps){m:Nat}(hm:w.heap.size≤m):¬HK gh v ps m:=fun hk=>absurd (h.lt hk).2 (by omega)
end Go.Proofs.YtplgghjdidmcfaaGreatDoor
