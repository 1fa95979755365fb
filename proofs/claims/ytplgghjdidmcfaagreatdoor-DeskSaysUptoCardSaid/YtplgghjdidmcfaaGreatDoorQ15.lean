/- Written anew, smaller, by a program of our own out of our texts. No condition of our own. -/
import Derived.Test.YtplgghjdidmcfaaGreatDoorQ03
import Derived.Test.YtplgghjdidmcfaaGreatDoorQ14
set_option maxRecDepth 100000
set_option maxHeartbeats 16000000
set_option linter.all false
namespace Go.Proofs.YtplgghjdidmcfaaGreatDoor
open Go.RowKit
theorem B9Q{P:Prop}(h:P:=by
 have h1:=H.2 j (ready_mono hj hji)
 obtain⟨hjun,oj,hoj,hall⟩:=Cb.1 hj
 have h2:=wpOp_putIf hoj (hfree j oj hoj hji hjun (hno listed j hj hr hji oj hoj)) (fun cs b=>hsel i oi cs b hi) (fun cs b=>hsel j oj cs b hoj) hQ hy h1
 have hfree':∀k ok,ops[k]? =some ok→k≠i→(listed.setIfInBounds j true).getD k true=false→
  (∀e∈ok.after,Region.binds .any e=true→e.on≠i)→oi.apart ops ok=true:=fun k ok hk hki hun hno'=>by
  refine hfree k ok hk hki ?_ hno'
  by_cases hjk:j=k
  ·subst hjk;exact hjun
  ·rw[getD_set_ne true hjk] at hun;exact hun
 refine wpOp_mono (fun a' w' h3=>⟨h3.2.1,ih (listed.setIfInBounds j true) a' w' (hcl.set_ hj) hfree' (ready_mono hr (Ne.symm hji)) h3.1 h3.2.1 ?_⟩) h2
 rw[Array.setIfInBounds_comm _ _ hji]
 exact h3.2.2
 ):P:=h
theorem B9V{P:Prop}(h:P:=by
 intro listed hr h1
 have h0:=(Cb.1 hr).1
 rcases CT i listed.size with h'|h'
 ·simp[h'] at h0 h1;rw[h0] at h1;cases h1
 ·simp[Array.getElem?_eq_none h'] at h1
 ):P:=h
theorem B9X{P:Prop}(h:P:=by
 intro listed j hj hr _ oj hoj e he hb heq
 obtain⟨_,oj',hoj',hall⟩:=Cb.1 hj
 rw[hoj] at hoj'
 cases hoj'
 exact hun listed hr (by rw[←heq];exact hall e he hb)
 ):P:=h
theorem C0b{P:Prop}(h:P:=by
 go_wp2_with fail
 go_ret
 exact⟨rfl,AI _ _⟩
 ):P:=h
theorem C2a{P:Prop}(h:P:=by
 rcases h1 with h1|h1
 ·exact .inl (h1.symm.trans hk)
 ·rw[hk] at h1;simp at h1;exact .inr (.inr EE)
 ):P:=h
theorem C2g{P:Prop}(h:P:=by
 simp only[Ax] at h1;subst h1;exact h.t
 ):P:=h
theorem C2h{P:Prop}(h:P:=by
 simp only[Value.ownBlock,reduceCtorEq,false_or] at h1
 rw[A0z]
 intro e;exact h1 (by rw[e])
 ):P:=h
section
variable {P:Program} {ops:Array Oper} {Q:Exit→Act→World→Prop} {S:World→Prop} {z:Nat}
def B4s(ops:Array Oper)(z:Nat)(oz:Oper):Bool:=(List.range ops.size).all fun i=>i==z||oz.after.any fun e=>Region.binds .any e&&(e.on==i||(match ops[e.on]? with
 |some o=>o.after.any fun e'=>Region.binds .any e'&&e'.on==i
 |none=>false))
def RgClosed(ops:Array Oper)(listed:Array Bool):Prop:=∀j o,listed.getD j false=true→ops[j]? =some o→∀e∈o.after,Region.binds .any e=true→listed.getD e.on false=true
theorem A8b{listed:Array Bool}{i j:Nat}(h:(listed.setIfInBounds i true).getD j false=true)(hne:j≠i):listed.getD j false=true:=by
 rw[getD_set_ne false (Ne.symm hne)] at h;exact h
theorem RgClosed.set_{ops:Array Oper}{listed:Array Bool}{i:Nat}(h:RgClosed ops listed)(hi:i∈Region.ready .any ops listed):RgClosed ops (listed.setIfInBounds i true):=by
 intro j o hj ho e he hb
 by_cases hji:j=i
 ·subst hji
  obtain⟨_,o',ho',hall⟩:=Cb.1 hi
  rw[ho] at ho';cases ho'
  exact getD_set_true (hall e he hb)
 ·exact getD_set_true (h j o (A8b hj hji) ho e he hb)
theorem RgClosed.start(ops:Array Oper)(n:Nat):RgClosed ops (Array.replicate n false):=by
 intro j o hj
 exfalso
 rw[Array.getD_eq_getD_getElem?,Array.getElem?_replicate] at hj
 split at hj<;>simp at hj
def A7c(P:Program)(ops:Array Oper)(Q:Exit→Act→World→Prop)(S:World→Prop)(z:Nat):Nat→Array Bool→Act→World→Prop
 |0,listed,a,w=>Region.ready .any ops listed=[z]∧Region.ready .any ops (listed.setIfInBounds z true)=[]∧wpOp P ops Q z (fun a' w'=>Q .normal a' w') a w
 |fuel+1,listed,a,w=>Region.ready .any ops listed≠ []∧∀i∈Region.ready .any ops listed,wpOp P ops Q i (fun a' w'=>S w'∧A7c P ops Q S z fuel (listed.setIfInBounds i true) a' w') a w
theorem A8F:∀(fuel:Nat) (listed:Array Bool) (a:Act) (w:World),A7c P ops Q S z fuel listed a w→wpAny P .any ops Q (fuel+1) listed a w
 |0,listed,a,w,h=>by
  obtain⟨h1,h2,h3⟩:=h
  refine⟨fun h=>(by rw[h1] at h;cases h),fun i hi=> ?_⟩
  rw[h1] at hi
  obtain rfl:i=z:=by simpa using hi
  exact wpOp_mono (fun a' w' h'=>⟨h2,h'⟩) h3
 |fuel+1,_,_,_,h=>⟨fun h0=>absurd h0 h.1,fun i hi=>wpOp_mono (fun a' w' h'=>A8F fuel _ a' w' h'.2) (h.2 i hi)⟩
theorem A7d{i:Nat}{oi oz:Oper}{v:Value}(hz:ops[z]? =some oz)(hl:B4s ops z oz=true)(hi:ops[i]? =some oi)(hiz:i≠z)(hsel:∀(j:Nat) (o:Oper) cs b,ops[j]? =some o→o.op≠.select cs b)(hQ:∀c a w,Q (.panic c) (a.put oi.dst v) w→Q (.panic c) a w):
 ∀(fuel:Nat) (listed:Array Bool) (a:Act) (w:World),RgClosed ops listed→
  (∀j oj,ops[j]? =some oj→j≠i→listed.getD j true=false→(∀e∈oj.after,Region.binds .any e=true→e.on≠i)→oi.apart ops oj=true)→
  i∈Region.ready .any ops listed→YieldsIf P ops S oi v a→S w→
  A7c P ops Q S z fuel (listed.setIfInBounds i true) (a.put oi.dst v) w→A7c P ops Q S z (fuel+1) listed a w:=by
 have hun:∀(listed:Array Bool),i∈Region.ready .any ops listed→listed.getD i false=true→False:=by
  exact B9V
 have hno:∀(listed:Array Bool) (j:Nat),j∈Region.ready .any ops listed→i∈Region.ready .any ops listed→j≠i→∀oj,ops[j]? =some oj→∀e∈oj.after,Region.binds .any e=true→e.on≠i:=by
  exact B9X
 intro fuel
 induction fuel with
 |zero=>
  intro listed a w hcl _ hr hy hS H
  refine⟨fun h=>(by rw[h] at hr;cases hr),fun j hj=> ?_⟩
  by_cases hji:j=i
  ·subst hji;exact hy.wpOp hi hS ⟨hS,H⟩
  ·exfalso
   have hm:=ready_mono hj hji
   rw[H.1] at hm
   obtain rfl:j=z:=by simpa using hm
   have hli:i<ops.size:=(Ay.1 hi).1
   have h1:=CP.1 hl i (Bc.2 hli)
   simp only[CB,At] at h1
   rcases h1 with h1|h1
   ·exact hiz h1
   ·rw[Df] at h1
    obtain⟨q,hq,h2⟩:=h1
    simp only[Ai,CB,At] at h2
    rcases h2.2 with h3|h3
    ·exact hno listed j hj hr hji oz hz _ (Cy hq) h2.1 h3
    ·obtain⟨_,oj',hoj',hall⟩:=Cb.1 hj
     rw[hz] at hoj'
     cases hoj'
     have h4:=hall _ (Cy hq) h2.1
     cases ho:ops[(oz.after[q]).on]? with
     |none=>rw[ho] at h3;simp at h3
     |some o=>
      rw[ho] at h3
      simp only[Df] at h3
      obtain⟨q',hq',h5⟩:=h3
      simp only[Ai,At] at h5
      have h6:=hcl _ o h4 ho _ (Cy hq') h5.1
      rw[h5.2] at h6
      exact hun listed hr h6
 |succ fuel ih=>
  intro listed a w hcl hfree hr hy hS H
  refine⟨fun h=>(by rw[h] at hr;cases hr),fun j hj=> ?_⟩
  by_cases hji:j=i
  ·subst hji;exact hy.wpOp hi hS ⟨hS,H⟩
  ·exact B9Q
def Qz(P:Program)(ops:Array Oper)(Q:Exit→Act→World→Prop)(oz:Oper):Exit→Act→World→Prop
 | .normal,a,w=>wpList P ops Q [oz] a w
 | .exit id,a,w=>Q (.exit id) a w
 | .goto l,a,w=>Q (.goto l) a w
 | .ret,a,w=>Q .ret a w
 | .panic c,a,w=>Q (.panic c) a w
 | .outgrown,a,w=>Q .outgrown a w
def A5t(ops:Array Oper)(z:Nat):List (Nat×Bool)→Array Bool→Bool
 |[],listed=>(Region.ready .any ops listed==[z])&&(Region.ready .any ops (listed.setIfInBounds z true)).isEmpty
 |(i,true)::rest,listed=>(i !=z)&&(Region.ready .any ops listed).contains i&&Region.free .any ops listed i&&(match ops[i]? with|some o=>A3l o|none=>false)&&A5t ops z rest (listed.setIfInBounds i true)
 |(i,false)::rest,listed=>(Region.ready .any ops listed==[i])&&A5t ops z rest (listed.setIfInBounds i true)
theorem A2X{K:Act→World→Prop}{R:Exit→Act→World→Prop}{i:Nat}{o:Oper}{a:Act}{w:World}(hi:ops[i]? =some o)(h:wpList P ops R [o] a w)(hn:∀a w,R .normal a w→K a w)(hp:∀c a w,R (.panic c) a w→Q (.panic c) a w)(ho:LetsOut R→LetsOut Q):wpOp P ops Q i K a w:=by
 unfold wpList at h
 unfold wpOp
 simp only[hi]
 by_cases hw:Region.wanted o (yielded ops a.tmps)=true
 ·rw[if_pos hw] at h⊢
  rcases h with h|⟨h1,h2⟩
  ·left
   unfold Oper.wp at h⊢
   generalize(execOp a.eval o).run P w=r at*
   cases r with
   |ok n w'=>
    cases n<;>simp only[Oper.upon] at h⊢
    case enter f args=>
     exact h.mono fun e w'' hh=>by
      cases e with
      |returned v=>exact hn _ _ hh
      |panicked c=>exact hp _ _ _ hh
      |outgrown=>exact ho hh
    case row row args=>exact h.mono fun v w'' hh=>hn _ _ hh
    all_goals first
     |exact hn _ _ h
     |exact h
   |halt x w'=>
    cases x<;>simp only[Oper.upon] at h⊢
    all_goals first
     |exact hp _ _ _ h
     |exact h
  ·exact .inr ⟨h1,ho h2⟩
 ·rw[if_neg hw] at h⊢
  exact hn _ _ h
theorem A4l{oz:Oper}(hz:ops[z]? =some oz)(hl:B4s ops z oz=true)(hs:Region.noSelect ops=true)(hQ:∀c a (d:Tmp) v w,Q (.panic c) (Act.put a (some d) v) w→Q (.panic c) a w):
 ∀(σ:List (Nat×Bool)) (listed:Array Bool) (a:Act) (w:World),RgClosed ops listed→A5t ops z σ listed=true→S w→A0L P ops S (Qz P ops Q oz) (A0i ops σ) a w→A7c P ops Q S z σ.length listed a w
 |[],listed,a,w,_,hB,_,h=>by
  simp only[A5t,Ai,At,Dm] at hB
  refine⟨hB.1,hB.2, ?_⟩
  simp only[A0i] at h
  unfold A0L at h
  replace h:=h.out
  exact A2X hz h (fun _ _ h=>h) (fun _ _ _ h=>h) (fun h=>h)
 |(i,true)::rest,listed,a,w,hcl,hB,hC,h=>by
  simp only[A5t,Ai,Be] at hB
  obtain⟨⟨⟨⟨hne,hr⟩,hf⟩,hk⟩,hB'⟩:=hB
  cases hi:ops[i]? with
  |none=>rw[hi] at hk;simp at hk
  |some o=>
   rw[hi] at hk
   simp only[A0i,hi] at h
   unfold A0L at h
   replace h:=h.out
   by_cases hw:Region.wanted o (yielded ops a.tmps)=true
   ·rw[if_pos hw] at h
    obtain⟨v,h1,h2⟩:=h
    exact A7d hz hl hi hne (DF hs) (fun c a w hh=>A7w hQ c a _ _ w hh) _ _ _ _ hcl (Dn hi hf) (by simpa using hr) (A3G hk hw h1) hC (A4l hz hl hs hQ rest _ _ _ (hcl.set_ (by simpa using hr)) hB' hC h2)
   ·rw[if_neg hw] at h
    exact A7d hz hl hi hne (DF hs) (fun c a w hh=>A7w hQ c a _ _ w hh) _ _ _ _ hcl (Dn hi hf) (by simpa using hr) (.inr ⟨by simpa using hw,rfl⟩) hC (A4l hz hl hs hQ rest _ _ _ (hcl.set_ (by simpa using hr)) hB' hC h)
 |(i,false)::rest,listed,a,w,hcl,hB,hC,h=>by
  simp only[A5t,Ai,At] at hB
  obtain⟨hr,hB'⟩:=hB
  refine⟨by rw[hr];simp,fun j hj=> ?_⟩
  rw[hr] at hj
  obtain rfl:j=i:=by simpa using hj
  cases hi:ops[j]? with
  |none=>
   exfalso
   have hm:j∈Region.ready .any ops listed:=by rw[hr];simp
   obtain⟨_,o,ho,_⟩:=Cb.1 hm
   rw[hi] at ho;cases ho
  |some o=>
   simp only[A0i,hi] at h
   unfold A0L at h
   replace h:=h.out
   exact A2X hi h (fun a w hh=>⟨hh.1,A4l hz hl hs hQ rest _ _ _ (hcl.set_ (by rw[hr];simp)) hB' hh.1 hh.2⟩) (fun _ _ _ h=>h) (fun⟨a,w,hh⟩=>⟨a,w,hh⟩)
theorem A2a{id:Nat}{a:Act}{w:World}(σ:List (Nat×Bool))(z:Nat)(oz:Oper)(F:World→Prop)(hm:P.follows .mixedOrders=true)(hs:Region.noSelect ops=true)(hz:ops[z]? =some oz)(hl:B4s ops z oz=true)(hlen:σ.length+1=ops.size)(hQ:∀c a (d:Tmp) v w,Q (.panic c) (Act.put a (some d) v) w→Q (.panic c) a w)(hB:A5t ops z σ (Array.replicate ops.size false)=true)(hF:F w)(hd:F w→F w.drew)(h:Nonempty (Wof F)→A0L P ops (fun w'=>∃p:Wof F,w'=p.w) (Qz P ops Q oz) (A0i ops σ) a w.drew):(Code.region id ops true).wp P Q a w:=by
 refine wp_region_any hm ?_
 rw[←hlen]
 exact A8F _ _ _ _ (A4l hz hl hs hQ σ _ a _ (RgClosed.start _ _) (by rw[hlen];exact hB) ⟨⟨_,hd hF⟩,rfl⟩ (h ⟨⟨_,hF⟩⟩))
theorem A6d{oz:Oper}{a:Act}{w:World}(h:wpList P ops Q [oz] a w):Qz P ops Q oz .normal a w:=h
end
structure Es where
 text:List UInt8
 back:List (List UInt8)
 onward:List (List UInt8)
def doE(s:Es)(l:List Ed):Int:=if A0n s.text.length l=0 then(if l.length=0 then 5 else 0) else A0n s.text.length l
def doS(s:Es)(l:List Ed):Es:=if doE s l=0 then⟨A0C s.text l,(s.back++ [s.text]).drop (s.back.length+1-30),[]⟩ else s
def A1J(s:Es):Es:=if s.back.length=0 then s else⟨s.back.getD (s.back.length-1) [],s.back.take (s.back.length-1),s.onward++ [s.text]⟩
def A1K(s:Es):Es:=if s.onward.length=0 then s else⟨s.onward.getD (s.onward.length-1) [],s.back++ [s.text],s.onward.take (s.onward.length-1)⟩
structure EsOk (s:Es):Prop where
 t:s.text.length≤200
 b:∀x∈s.back,x.length≤200
 o:∀x∈s.onward,x.length≤200
 n:s.back.length+s.onward.length≤30
theorem B4t{s:List UInt8}{l:List Ed}(h:A0n s.length l=0):(A0C s l).length≤200:=by
 obtain⟨_,_,_,hc,hg⟩:=A2o.1 h
 rw[A5B h]
 have:=A4z (n:=s.length) rfl hc (k:=0) rfl (AS _)
 omega
theorem EsOk.do_{s:Es}(h:EsOk s)(l:List Ed):EsOk (doS s l):=by
 unfold doS
 split
 ·rename_i h0
  have he:A0n s.text.length l=0:=by
   unfold doE at h0
   by_cases he:A0n s.text.length l=0
   ·exact he
   ·rw[if_neg he] at h0;exact h0
  refine⟨B4t he,fun x hx=> ?_,(fun x hx=>absurd hx EH), ?_⟩
  ·have:=List.mem_of_mem_drop hx
   rcases Af.1 this with h1|h1
   ·exact h.b x h1
   ·exact C2g
  ·have:=h.n
   simp only[AZ,AJ,Ah,BK];omega
 ·exact h
theorem A6F{l:List (List UInt8)}(h:¬l.length=0):l.getD (l.length-1) []∈l:=by
 rw[AK,AL EE]
 exact Ac _
theorem EsOk.undo{s:Es}(h:EsOk s):EsOk (A1J s):=by
 unfold A1J
 split
 ·exact h
 ·rename_i h0
  have:=h.n
  refine⟨h.b _ (A6F h0),fun x hx=>h.b x (CI hx),fun x hx=> ?_,by simp only[AV,AJ,Ah];omega⟩
  rcases Af.1 hx with h1|h1
  ·exact h.o x h1
  ·exact C2g
theorem EsOk.redo{s:Es}(h:EsOk s):EsOk (A1K s):=by
 unfold A1K
 split
 ·exact h
 ·rename_i h0
  have:=h.n
  refine⟨h.o _ (A6F h0),fun x hx=> ?_,fun x hx=>h.o x (CI hx),by simp only[AV,AJ,Ah];omega⟩
  rcases Af.1 hx with h1|h1
  ·exact h.b x h1
  ·exact C2g
structure EdSt (w:World) (base g:Nat) (s:Es) (vB vO:Value):Prop where
 blk:Blk w g 123 #[.string (S s.text),vB,vO]
 lo:base≤g
 b:OwnO w base 9 1 vB s.back.length (strCells s.back)
 o:OwnO w base 9 1 vO s.onward.length (strCells s.onward)
 ap:Apart vB vO
structure Chg (w w':World) (K:Nat→Prop):Prop where
 os:w'.os=w.os
 tape:w'.tape=w.tape
 output:w'.output=w.output
 size:w.heap.size≤w'.heap.size
 block:∀k,k<w.heap.size→¬K k→w'.heap[k]? =w.heap[k]?
section
variable {w w' w2:World} {K K':Nat→Prop} {base g:Nat} {s:Es} {vB vO v u:Value} {e:TypeId} {size n:Nat} {xs:List Value}
theorem Chg.of_below(h:Below w.heap.size w w')(K:Nat→Prop):Chg w w' K:=⟨h.os,h.tape,h.output,h.size,fun k hk _=>h.block k hk⟩
theorem Chg.of_gb{row:Option Nat}(h:w.grownBy w' row)(hK:∀k,row=some k→K k):Chg w w' K:=⟨h.os,h.tape,h.output,h.size,fun k hk hn=>h.block k hk (fun e=>hn (hK k e.symm))⟩
theorem Chg.trans(h:Chg w w' K)(h2:Chg w' w2 K')(hK:∀k,K' k→k<w.heap.size→K k):Chg w w2 K:=
 ⟨h2.os.trans h.os,h2.tape.trans h.tape,h2.output.trans h.output,AQ h.size h2.size,fun k hk hn=>(h2.block k (AO hk h.size) (fun h'=>hn (hK k h' hk))).trans (h.block k hk hn)⟩
theorem OwnO.chg(h:OwnO w base e size v n xs)(hc:Chg w w' K)(hK:∀k,v.ownBlock=some k→¬K k):OwnO w' base e size v n xs:=by
 refine⟨h.1, ?_⟩
 rcases h.2 with hn|⟨g,o,cap,cur,rfl,hb,hgg,rest⟩
 ·exact .inl hn
 ·refine .inr ⟨g,o,cap,cur,rfl,hb, ?_,rest⟩
  rw[hc.block g (Ay.1 hgg).1 (hK g rfl)]
  exact hgg
theorem EdSt.below(h:EdSt w base g s vB vO)(hb:Below w.heap.size w w'):EdSt w' base g s vB vO:=⟨h.blk.below' hb,h.lo,h.b.below hb,h.o.below hb,h.ap⟩
theorem OwnO.lower{base':Nat}(h:OwnO w base e size v n xs)(hb:base'≤base):OwnO w base' e size v n xs:=by
 refine⟨h.1, ?_⟩
 rcases h.2 with h|⟨g,o,cap,cur,h1,h2,h3⟩
 ·exact .inl h
 ·exact .inr ⟨g,o,cap,cur,h1,by omega,h3⟩
end
theorem A8G{w w':World}{base:Nat}{e:TypeId}{size n:Nat}{v u v':Value}{xs:List Value}(h:OwnO w base e size v n xs)(ha:Apart v u)(hu:v'.ownBlock=u.ownBlock∨v'.ownBlock=some w'.heap.size)(hs:w.heap.size≤w'.heap.size):Apart v v':=by
 exact B9S
theorem OwnO.far{w:World}{base:Nat}{e:TypeId}{size n g:Nat}{v:Value}{xs:List Value}(h:OwnO w base e size v n xs)(hg:v.ownBlock=none∨v.ownBlock≠some g)(i:Nat)(u:Value):OwnO (w.setCell ⟨g,i,none⟩ u) base e size v n xs:=h.kept (A1F (A0U _ _) i u) hg
theorem EdSt.app{w w':World}{base g:Nat}{st x:List UInt8}{sb so:List (List UInt8)}{vB vO v6:Value}(h:EdSt w base g ⟨st,sb,so⟩ vB vO)(hg:w.grownBy w' vO.ownBlock)(hgv:some g≠vO.ownBlock)(hown:OwnO w' base 9 1 v6 (so.length+1) (strCells so++ [.string (S x)]))(ha:v6.ownBlock=vO.ownBlock∨v6.ownBlock=some w.heap.size):
 EdSt (w'.setCell ⟨g,2,none⟩ v6) base g ⟨st,sb,so++ [x]⟩ vB v6:=by
 have hB:=h.blk.grown hg hgv
 have ho:OwnO w' base 9 1 v6 (so++ [x]).length (strCells (so++ [x])):=by
  rw[AJ,strCells,BM];exact hown
 have hb':=h.b.kept hg h.ap
 exact⟨hB.set_ 2 v6,h.lo,hb'.far (hb'.ne_blk hB EF) _ _,ho.far (ho.ne_blk hB EF) _ _,A8G h.b h.ap ha (AD _)⟩
theorem EdSt.appB{w w':World}{base g:Nat}{st x:List UInt8}{sb so:List (List UInt8)}{vB vO v6:Value}(h:EdSt w base g ⟨st,sb,so⟩ vB vO)(hg:w.grownBy w' vB.ownBlock)(hgv:some g≠vB.ownBlock)(hown:OwnO w' base 9 1 v6 (sb.length+1) (strCells sb++ [.string (S x)]))(ha:v6.ownBlock=vB.ownBlock∨v6.ownBlock=some w.heap.size):
 EdSt (w'.setCell ⟨g,1,none⟩ v6) base g ⟨st,sb++ [x],so⟩ v6 vO:=by
 have hB:=h.blk.grown hg hgv
 have ho:OwnO w' base 9 1 v6 (sb++ [x]).length (strCells (sb++ [x])):=by
  rw[AJ,strCells,BM];exact hown
 have hb':=h.o.kept hg h.ap.comm
 exact⟨hB.set_ 1 v6,h.lo,ho.far (ho.ne_blk hB EF) _ _,hb'.far (hb'.ne_blk hB EF) _ _,(A8G h.o h.ap.comm ha (AD _)).comm⟩
theorem EdSt.text_{w:World}{base g:Nat}{st:List UInt8}{sb so:List (List UInt8)}{vB vO:Value}(h:EdSt w base g ⟨st,sb,so⟩ vB vO)(x:List UInt8):EdSt (w.setCell ⟨g,0,none⟩ (.string (S x))) base g ⟨x,sb,so⟩ vB vO:=
 ⟨h.blk.set_ 0 _,h.lo,h.b.far (h.b.ne_blk h.blk EF) _ _,h.o.far (h.o.ne_blk h.blk EF) _ _,h.ap⟩
theorem B3C{w:World}{base:Nat}{A:Option Addr}{m c k:Nat}{l:List (List UInt8)}(h:OwnO w base 9 1 (.slice A m c) l.length (strCells l))(hm:m=l.length)(hk:k≤m)(hA:A≠none):OwnO w base 9 1 (.slice A k c) (l.take k).length (strCells (l.take k)):=by
 subst hm
 have:=h.front A c k rfl hk hA
 rw[Nat.mul_one] at this
 rw[AV,BX hk,strCells,List.map_take]
 exact this
theorem EdSt.cutB{w:World}{base g:Nat}{st:List UInt8}{sb so:List (List UInt8)}{A:Option Addr}{m c k:Nat}{vO:Value}(h:EdSt w base g ⟨st,sb,so⟩ (.slice A m c) vO)(hm:m=sb.length)(hk:k≤m)(hA:A≠none):
 EdSt (w.setCell ⟨g,1,none⟩ (.slice A k c)) base g ⟨st,sb.take k,so⟩ (.slice A k c) vO:=by
 have h1:=B3C h.b hm hk hA
 refine⟨h.blk.set_ 1 _,h.lo,h1.far (h1.ne_blk h.blk EF) _ _,h.o.far (h.o.ne_blk h.blk EF) _ _, ?_⟩
 have:=h.ap
 cases A with
 |none=>exact absurd rfl hA
 |some a=>exact this
theorem EdSt.cutO{w:World}{base g:Nat}{st:List UInt8}{sb so:List (List UInt8)}{A:Option Addr}{m c k:Nat}{vB:Value}(h:EdSt w base g ⟨st,sb,so⟩ vB (.slice A m c))(hm:m=so.length)(hk:k≤m)(hA:A≠none):
 EdSt (w.setCell ⟨g,2,none⟩ (.slice A k c)) base g ⟨st,sb,so.take k⟩ vB (.slice A k c):=by
 have h1:=B3C h.o hm hk hA
 refine⟨h.blk.set_ 2 _,h.lo,h.b.far (h.b.ne_blk h.blk EF) _ _,h1.far (h1.ne_blk h.blk EF) _ _, ?_⟩
 have:=h.ap
 cases A with
 |none=>exact absurd rfl hA
 |some a=>exact this
def A3P(w:World)(v':Value)(vB vO:Value):Prop:=∀k,v'.ownBlock=some k→vB.ownBlock=some k∨vO.ownBlock=some k∨w.heap.size≤k
def EdK(g:Nat)(vB vO:Value):Nat→Prop:=fun k=>k=g∨vB.ownBlock=some k∨vO.ownBlock=some k
theorem B0K(t:ByteArray)(h:200<t.size)(w:World):
 Calls Tryz.prog 28 #[.string t] w fun e w'=>e= .returned (.tuple #[.pointer none,.int .i64 2])∧w'=w:=by
 have g1:decide ((200:Int)<(t.size:Int))=true:=AG EE
 go_enter Tryz.func28,Tryz.ntmps28
 go_wp2_with fail
 go_ret2
 exact⟨rfl,rfl⟩
theorem A5U(t:ByteArray)(h:t.size≤200)(w:World):
 Calls Tryz.prog 28 #[.string t] w fun e w'=>e= .returned (.tuple #[.pointer (some ⟨w.heap.size,0,none⟩),.int .i64 0])∧EdSt w' w.heap.size w.heap.size ⟨L t,[],[]⟩ (.slice none 0 0) (.slice none 0 0)∧Below w.heap.size w w':=by
 have g1:decide ((200:Int)<(t.size:Int))=false:=AC EE
 have HB:Hid (EdSt (w.alloc (.cells #[.string t,.slice none 0 0,.slice none 0 0] 123)) w.heap.size w.heap.size ⟨L t,[],[]⟩ (.slice none 0 0) (.slice none 0 0)):=
  ⟨Blk.new_ _ _ _,AD _,OwnO.nil_,OwnO.nil_,Apart.none_left _⟩
 go_enter Tryz.func28,Tryz.ntmps28
 go_wp2_with fail
 go_ret2
 exact⟨rfl,HB.out,Ds⟩
theorem EdSt.cells{w:World}{base g:Nat}{s:Es}{vB vO:Value}(h:EdSt w base g s vB vO):w.cell? ⟨g,0,none⟩=some (.string (S s.text))∧w.cell? ⟨g,1,none⟩=some vB∧w.cell? ⟨g,2,none⟩=some vO∧
 w.frozen? ⟨g,0,none⟩=false∧w.frozen? ⟨g,1,none⟩=false∧w.frozen? ⟨g,2,none⟩=false∧g<w.heap.size:=
 ⟨h.blk.cell0,h.blk.cell1,h.blk.cell2,h.blk.frozen 0,h.blk.frozen 1,h.blk.frozen 2,h.blk.lt⟩
theorem A5d(base g:Nat)(s:Es)(vB vO:Value)(w:World)(h:EdSt w base g s vB vO):
 Calls Tryz.prog 23 #[.pointer (some ⟨g,0,none⟩)] w fun e w'=>e= .returned (.string (S s.text))∧Below w.heap.size w w':=by
 obtain⟨c0,c1,c2,f0,f1,f2,hg⟩:=h.cells
 clear h
 go_enter Tryz.func23,Tryz.ntmps23
 exact C0b
theorem B0L(l:List (List UInt8))(k:Nat):(strCells l).drop k=strCells (l.drop k):=by simp[strCells,List.map_drop]
theorem A2C:(Tryz.prog.info? 9).map (fun i=>(i.zero,i.size,i.bytes))=some (some (.string ByteArray.empty),1,16):=by kernel_rfl
theorem B8R(base g:Nat)(s:Es)(vB vO:Value)(w:World)(h:EdSt w base g s vB vO)(h0:s.back.length=0):
 Calls Tryz.prog 55 #[.pointer (some ⟨g,0,none⟩)] w fun e w'=>e= .returned (.int .i64 4)∧Below w.heap.size w w':=by
 obtain⟨c0,c1,c2,f0,f1,f2,hg⟩:=h.cells
 obtain⟨A,c,rfl,_,_,_⟩:=h.b.form
 clear h
 go_enter Tryz.func55,Tryz.ntmps55
 exact C0b
theorem B3D(base g:Nat)(s:Es)(vB vO:Value)(w:World)(h:EdSt w base g s vB vO)(h0:0<s.back.length)(hB:base≤w.heap.size)(hno:s.back.length+s.onward.length≤1000):
 Calls Tryz.prog 55 #[.pointer (some ⟨g,0,none⟩)] w fun e w'=>e= .returned (.int .i64 0)∧∃vB' vO',EdSt w' base g (A1J s) vB' vO'∧Chg w w' (EdK g vB vO)∧A3P w vB' vB vO∧A3P w vO' vB vO:=by
 obtain⟨i0,hi0,hz0,hz1,hz2⟩:=info_parts A2C
 have HE:=AA h
 obtain⟨c0,c1,c2,f0,f1,f2,hg⟩:=h.cells
 obtain⟨A,c,rfl,hnc,hcm,hrd⟩:=h.b.form
 have HRD:=AA hrd
 clear h hrd
 obtain⟨st,sb,so⟩:=s
 simp only at*
 generalize hlen:sb.length=m at*
 obtain⟨n,rfl⟩:∃n,m=n+1:=⟨m-1,by omega⟩
 have HLEN:=AA hlen
 clear hlen
 have e1:(((n+1:Nat):Int)==0)=false:=by rw[AH];omega
 obtain⟨ad,rfl,hab,hcl⟩:=A2t HRD.out (show n<n+1 by omega)
 have HCL:=AA hcl
 clear hcl
 go_enter Tryz.func55,Tryz.ntmps55
 go_wp2_with fail
 obtain⟨F1,HF1,hcell10,hcell11⟩:=cells2 ⟨g,0,none⟩ (.string (S st)) ⟨g,2,none⟩ (vO)
 refine A2a [(0,true),(1,true),(2,true),(3,true),(4,true),(5,true),(6,true),(7,true),(8,true),(9,false),(10,false),(11,true),(12,true)] 13 _ F1 EG EG rfl EG rfl (fun _ _ _ _ _ h=>h) EG (by rw[HF1.out];first|((repeat' apply And.intro)<;>assumption)|trivial|(simp;done)|(simp[*];done)) (by rw[HF1.out];exact fun h=>h) ?_
 intro hne1
 simp only[A0i,AT,AP,AR]
 repeat(first|((first|refine Dt ?_|refine Du ?_);intro K hK;go_big_quiet_op;go_big_quiet_on)|((first|refine Dv ?_|refine Dw ?_);simp only[Act.put,AB,AE,AF]))
 refine A0a ?_
 go_wp2_with fail
 refine ED HF1 ?_
 repeat(first|((first|refine Dt ?_|refine Du ?_);intro K hK;go_big_quiet_op;go_big_quiet_on)|((first|refine Dv ?_|refine Dw ?_);simp only[Act.put,AB,AE,AF]))
 refine A0a ?_
 have hO1:∀o,OwnO (w.alloc o).drew base 9 1 vO so.length (strCells so):=fun o=>HE.out.o.below Ds
 have hnw:∀j u,[Value.string (S st)][j]? =some u→((w.alloc (.cells #[.string (S st)] 9)).drew).cell? (Addr.add ⟨w.heap.size,0,none⟩ j)=some u:=fun j u hj=>A3m w #[.string (S st)] 9 j u hj
 have hnb:=HE.out.o.ne_blk HE.out.blk EF
 go_wp2_with (at_builtin;go_must (refine A3J rfl _ _ _ rfl base 9 i0 _ 1 16 Tryz.underlying25 hi0 hz0 hz1 hz2 rfl EE _ so.length (strCells so) rfl (hO1 _) ⟨w.heap.size,0,none⟩ 1 1 [.string (S st)] rfl rfl hnw (by simp[Value.oneCell']) EE EE (by simp;omega) ?_);intro v6 w6 hown6 hg6 hb6 ha6;obtain⟨A6,c6,rfl,_,_,_⟩:=OwnO.form hown6)
 have hg6':(w.alloc (.cells #[.string (S st)] 9)).drew.grownBy w6 vO.ownBlock:=hg6
 have hgv:some g≠vO.ownBlock:=fun e=>by rcases hnb with h|h<;>rw[←e] at h<;>simp at h
 have k0:=hg6'.cell (a:=⟨g,0,none⟩) (v:= .string (S st)) ((BQ w _ _ hg).trans c0) hgv
 have k2:=hg6'.cell (a:=⟨g,2,none⟩) (v:=vO) ((BQ w _ _ hg).trans c2) hgv
 have HE1:EdSt (w.alloc (.cells #[.string (S st)] 9)).drew base g ⟨st,sb,so⟩ (.slice (some ad) (n+1) c) vO:=HE.out.below Ds
 have hE7:=AA (HE1.app hg6' hgv (by first|exact hown6|simpa using hown6) ha6)
 have HC7:=AA (((Chg.of_below (w:=w) (w':=(w.alloc (.cells #[.string (S st)] 9)).drew) Ds (EdK g (.slice (some ad) (n+1) c) vO)).trans (Chg.of_gb (K:=EdK g (.slice (some ad) (n+1) c) vO) hg6' (fun k hk=> .inr (.inr hk))) (fun _ h _=>h)).trans (Chg.of_gb (K:=EdK g (.slice (some ad) (n+1) c) vO) (A1F (A0U w6 (some g)) 2 (.slice A6 (so.length+1) c6)) (fun k hk=> .inl (by simpa using hk.symm))) (fun _ h _=>h))
 have HFR:Hid (∀k,(Value.slice A6 (so.length+1) c6).ownBlock=some k→(Value.slice (some ad) (n+1) c).ownBlock=some k∨vO.ownBlock=some k∨w.heap.size≤k):=fun k hk=>by
  have h1:(Value.slice A6 (so.length+1) c6).ownBlock=vO.ownBlock∨(Value.slice A6 (so.length+1) c6).ownBlock=some (w.alloc (.cells #[.string (S st)] 9)).drew.heap.size:=ha6
  rcases h1 with h1|h1
  ·exact .inr (.inl (h1.symm.trans hk))
  ·rw[hk] at h1;simp at h1;exact .inr (.inr EE)
 refine ED HF1 ?_ ⟨k0,k2⟩
 repeat(first|((first|refine Dt ?_|refine Du ?_);intro K hK;go_big_quiet_op;go_big_quiet_on)|((first|refine Dv ?_|refine Dw ?_);simp only[Act.put,AB,AE,AF]))
 refine A0g ?_
 refine A6d ?_
 have q2f:w6.frozen? ⟨g,2,none⟩=false:=(HE1.blk.grown hg6' hgv).frozen 2
 clear HF1 hcell10 hcell11 hne1
 go_wp2_with fail
 clear k0 k2 q2f c0 c1 c2 f0 f1 f2 hg HE HE1 HRD HCL hO1 hnw hnb hgv hown6 hg6 hg6' hb6 ha6 hab
 generalize(w6.setCell ⟨g,2,none⟩ (.slice A6 (so.length+1) c6))=w7 at*
 obtain⟨c0,c1,c2,f0,f1,f2,hg⟩:=hE7.out.cells
 obtain⟨ad',hadd,hab,hcl⟩:=A2t (k:=n) (by obtain⟨A',c',hv,_,_,hr⟩:=hE7.out.b.form;injection hv with h1;subst h1;exact hr) (by show n<sb.length;rw[HLEN.out];omega)
 cases hadd
 have HU:Hid (A1J ⟨st,sb,so⟩=⟨sb.getD n [],sb.take n,so++ [st]⟩):=by
  unfold Hid A1J;simp only[HLEN.out];rfl
 generalize sb.getD n []=T at*
 generalize hTT:S T=TT at*
 have HTT:=AA hTT
 clear hTT
 obtain⟨F2,HF2,hcell20,hcell21⟩:=cells2 ⟨g,1,none⟩ (.slice (some ad) (n+1) c) (ad.add n) (.string TT)
 refine A2a [(0,true),(1,true),(2,true),(3,true),(4,true),(5,true),(6,true),(7,true),(8,true),(9,true),(10,true),(11,true),(12,true),(13,true),(14,true),(15,true),(16,true),(17,true),(18,true),(19,false),(20,true),(21,true)] 22 _ F2 EG EG rfl EG rfl (fun _ _ _ _ _ h=>h) EG (by rw[HF2.out];first|((repeat' apply And.intro)<;>assumption)|trivial|(simp;done)|(simp[*];done)) (by rw[HF2.out];exact fun h=>h) ?_
 intro hne2
 simp only[A0i,AT,AP,AR]
 repeat(first|((first|refine Dt ?_|refine Du ?_);intro K hK;go_big_quiet_op;go_big_quiet_on)|((first|refine Dv ?_|refine Dw ?_);simp only[Act.put,AB,AE,AF]))
 refine A0a ?_
 have HE8:=AA ((hE7.out.below (w':=w7.drew) Ds).text_ T)
 rw[HTT.out] at HE8
 have hne:(ad.add n).block≠g:=by
  have h1:=hE7.out.b.ne_blk hE7.out.blk EF
  exact C2h
 have k1:(w7.drew.setCell ⟨g,0,none⟩ (.string TT)).cell? (ad.add n)=some (.string TT):=(AY _ _ _ _ (fun e=>hne (by rw[←e]))).trans hcl
 have k0:=HE8.out.cells.2.1
 go_wp2_with fail
 refine ED HF2 ?_ ⟨k0,k1⟩
 repeat(first|((first|refine Dt ?_|refine Du ?_);intro K hK;go_big_quiet_op;go_big_quiet_on)|((first|refine Dv ?_|refine Dw ?_);simp only[Act.put,AB,AE,AF]))
 refine A0g ?_
 refine A6d ?_
 have HC8:=AA (HC7.out.trans (Chg.of_gb (K:=EdK g (.slice (some ad) (n+1) c) vO) (A1F (A3Y (A0U w7 (some g))) 0 (.string TT)) (fun k hk=> .inl (by simpa using hk.symm))) (fun _ h _=>h))
 have HE9:=AA (HE8.out.cutB (k:=n) HLEN.out.symm EE EH)
 have HC9:=AA (HC8.out.trans (Chg.of_gb (K:=EdK g (.slice (some ad) (n+1) c) vO) (A1F (A0U _ (some g)) 1 (.slice (some ad) n c)) (fun k hk=> .inl (by simpa using hk.symm))) (fun _ h _=>h))
 obtain⟨_,p1,_,_,pf1,_,pg⟩:=HE8.out.cells
 have p1':(w7.setCell ⟨g,0,none⟩ (.string TT)).cell? ⟨g,1,none⟩=some (.slice (some ad) (n+1) c):=p1
 have pf1':(w7.setCell ⟨g,0,none⟩ (.string TT)).frozen? ⟨g,1,none⟩=false:=pf1
 clear HF2 hcell20 hcell21 hne2 c0 c1 c2 f0 f1 f2 k0 k1 hcl
 go_wp2_with fail
 go_ret
 refine⟨rfl,.slice (some ad) n c,.slice A6 (so.length+1) c6, ?_,HC9.out,fun k hk=> .inl hk,fun k hk=> ?_⟩
 ·rw[HU.out];exact HE9.out
 ·exact HFR.out k hk
theorem B8S(base g:Nat)(s:Es)(vB vO:Value)(w:World)(h:EdSt w base g s vB vO)(h0:s.onward.length=0):
 Calls Tryz.prog 56 #[.pointer (some ⟨g,0,none⟩)] w fun e w'=>e= .returned (.int .i64 4)∧Below w.heap.size w w':=by
 obtain⟨c0,c1,c2,f0,f1,f2,hg⟩:=h.cells
 obtain⟨A,c,rfl,_,_,_⟩:=h.o.form
 clear h
 go_enter Tryz.func56,Tryz.ntmps56
 exact C0b
theorem B3E(base g:Nat)(s:Es)(vB vO:Value)(w:World)(h:EdSt w base g s vB vO)(h0:0<s.onward.length)(hB:base≤w.heap.size)(hno:s.back.length+s.onward.length≤1000):
 Calls Tryz.prog 56 #[.pointer (some ⟨g,0,none⟩)] w fun e w'=>e= .returned (.int .i64 0)∧∃vB' vO',EdSt w' base g (A1K s) vB' vO'∧Chg w w' (EdK g vB vO)∧A3P w vB' vB vO∧A3P w vO' vB vO:=by
 obtain⟨i0,hi0,hz0,hz1,hz2⟩:=info_parts A2C
 have HE:=AA h
 obtain⟨c0,c1,c2,f0,f1,f2,hg⟩:=h.cells
 obtain⟨A,c,rfl,hnc,hcm,hrd⟩:=h.o.form
 have HRD:=AA hrd
 clear h hrd
 obtain⟨st,sb,so⟩:=s
 simp only at*
 generalize hlen:so.length=m at*
 obtain⟨n,rfl⟩:∃n,m=n+1:=⟨m-1,by omega⟩
 have HLEN:=AA hlen
 clear hlen
 have e1:(((n+1:Nat):Int)==0)=false:=by rw[AH];omega
 obtain⟨ad,rfl,hab,hcl⟩:=A2t HRD.out (show n<n+1 by omega)
 have HCL:=AA hcl
 clear hcl
 go_enter Tryz.func56,Tryz.ntmps56
 go_wp2_with fail
 obtain⟨F1,HF1,hcell10,hcell11⟩:=cells2 ⟨g,0,none⟩ (.string (S st)) ⟨g,1,none⟩ (vB)
 refine A2a [(0,true),(1,true),(2,true),(3,true),(4,true),(5,true),(6,true),(7,true),(8,true),(9,false),(10,false),(11,true),(12,true)] 13 _ F1 EG EG rfl EG rfl (fun _ _ _ _ _ h=>h) EG (by rw[HF1.out];first|((repeat' apply And.intro)<;>assumption)|trivial|(simp;done)|(simp[*];done)) (by rw[HF1.out];exact fun h=>h) ?_
 intro hne1
 simp only[A0i,AT,AP,AR]
 repeat(first|((first|refine Dt ?_|refine Du ?_);intro K hK;go_big_quiet_op;go_big_quiet_on)|((first|refine Dv ?_|refine Dw ?_);simp only[Act.put,AB,AE,AF]))
 refine A0a ?_
 go_wp2_with fail
 refine ED HF1 ?_
 repeat(first|((first|refine Dt ?_|refine Du ?_);intro K hK;go_big_quiet_op;go_big_quiet_on)|((first|refine Dv ?_|refine Dw ?_);simp only[Act.put,AB,AE,AF]))
 refine A0a ?_
 have hO1:∀o,OwnO (w.alloc o).drew base 9 1 vB sb.length (strCells sb):=fun o=>HE.out.b.below Ds
 have hnw:∀j u,[Value.string (S st)][j]? =some u→((w.alloc (.cells #[.string (S st)] 9)).drew).cell? (Addr.add ⟨w.heap.size,0,none⟩ j)=some u:=fun j u hj=>A3m w #[.string (S st)] 9 j u hj
 have hnb:=HE.out.b.ne_blk HE.out.blk EF
 go_wp2_with (at_builtin;go_must (refine A3J rfl _ _ _ rfl base 9 i0 _ 1 16 Tryz.underlying25 hi0 hz0 hz1 hz2 rfl EE _ sb.length (strCells sb) rfl (hO1 _) ⟨w.heap.size,0,none⟩ 1 1 [.string (S st)] rfl rfl hnw (by simp[Value.oneCell']) EE EE (by simp;omega) ?_);intro v6 w6 hown6 hg6 hb6 ha6;obtain⟨A6,c6,rfl,_,_,_⟩:=OwnO.form hown6)
 have hg6':(w.alloc (.cells #[.string (S st)] 9)).drew.grownBy w6 vB.ownBlock:=hg6
 have hgv:some g≠vB.ownBlock:=fun e=>by rcases hnb with h|h<;>rw[←e] at h<;>simp at h
 have k0:=hg6'.cell (a:=⟨g,0,none⟩) (v:= .string (S st)) ((BQ w _ _ hg).trans c0) hgv
 have k2:=hg6'.cell (a:=⟨g,1,none⟩) (v:=vB) ((BQ w _ _ hg).trans c1) hgv
 have HE1:EdSt (w.alloc (.cells #[.string (S st)] 9)).drew base g ⟨st,sb,so⟩ vB (.slice (some ad) (n+1) c):=HE.out.below Ds
 have hE7:=AA (HE1.appB hg6' hgv (by first|exact hown6|simpa using hown6) ha6)
 have HC7:=AA (((Chg.of_below (w:=w) (w':=(w.alloc (.cells #[.string (S st)] 9)).drew) Ds (EdK g vB (.slice (some ad) (n+1) c))).trans (Chg.of_gb (K:=EdK g vB (.slice (some ad) (n+1) c)) hg6' (fun k hk=> .inr (.inl hk))) (fun _ h _=>h)).trans (Chg.of_gb (K:=EdK g vB (.slice (some ad) (n+1) c)) (A1F (A0U w6 (some g)) 1 (.slice A6 (sb.length+1) c6)) (fun k hk=> .inl (by simpa using hk.symm))) (fun _ h _=>h))
 have HFR:Hid (∀k,(Value.slice A6 (sb.length+1) c6).ownBlock=some k→vB.ownBlock=some k∨(Value.slice (some ad) (n+1) c).ownBlock=some k∨w.heap.size≤k):=fun k hk=>by
  have h1:(Value.slice A6 (sb.length+1) c6).ownBlock=vB.ownBlock∨(Value.slice A6 (sb.length+1) c6).ownBlock=some (w.alloc (.cells #[.string (S st)] 9)).drew.heap.size:=ha6
  exact C2a
 refine ED HF1 ?_ ⟨k0,k2⟩
 repeat(first|((first|refine Dt ?_|refine Du ?_);intro K hK;go_big_quiet_op;go_big_quiet_on)|((first|refine Dv ?_|refine Dw ?_);simp only[Act.put,AB,AE,AF]))
 refine A0g ?_
 refine A6d ?_
 have q2f:w6.frozen? ⟨g,1,none⟩=false:=(HE1.blk.grown hg6' hgv).frozen 1
 clear HF1 hcell10 hcell11 hne1
 go_wp2_with fail
 clear k0 k2 q2f c0 c1 c2 f0 f1 f2 hg HE HE1 HRD HCL hO1 hnw hnb hgv hown6 hg6 hg6' hb6 ha6 hab
 generalize(w6.setCell ⟨g,1,none⟩ (.slice A6 (sb.length+1) c6))=w7 at*
 obtain⟨c0,c1,c2,f0,f1,f2,hg⟩:=hE7.out.cells
 obtain⟨ad',hadd,hab,hcl⟩:=A2t (k:=n) (by obtain⟨A',c',hv,_,_,hr⟩:=hE7.out.o.form;injection hv with h1;subst h1;exact hr) (by show n<so.length;rw[HLEN.out];omega)
 cases hadd
 have HU:Hid (A1K ⟨st,sb,so⟩=⟨so.getD n [],sb++ [st],so.take n⟩):=by
  unfold Hid A1K;simp only[HLEN.out];rfl
 generalize so.getD n []=T at*
 generalize hTT:S T=TT at*
 have HTT:=AA hTT
 clear hTT
 obtain⟨F2,HF2,hcell20,hcell21⟩:=cells2 ⟨g,2,none⟩ (.slice (some ad) (n+1) c) (ad.add n) (.string TT)
 refine A2a [(0,true),(1,true),(2,true),(3,true),(4,true),(5,true),(6,true),(7,true),(8,true),(9,true),(10,true),(11,true),(12,true),(13,true),(14,true),(15,true),(16,true),(17,true),(18,true),(19,false),(20,true),(21,true)] 22 _ F2 EG EG rfl EG rfl (fun _ _ _ _ _ h=>h) EG (by rw[HF2.out];first|((repeat' apply And.intro)<;>assumption)|trivial|(simp;done)|(simp[*];done)) (by rw[HF2.out];exact fun h=>h) ?_
 intro hne2
 simp only[A0i,AT,AP,AR]
 repeat(first|((first|refine Dt ?_|refine Du ?_);intro K hK;go_big_quiet_op;go_big_quiet_on)|((first|refine Dv ?_|refine Dw ?_);simp only[Act.put,AB,AE,AF]))
 refine A0a ?_
 have HE8:=AA ((hE7.out.below (w':=w7.drew) Ds).text_ T)
 rw[HTT.out] at HE8
 have hne:(ad.add n).block≠g:=by
  have h1:=hE7.out.o.ne_blk hE7.out.blk EF
  exact C2h
 have k1:(w7.drew.setCell ⟨g,0,none⟩ (.string TT)).cell? (ad.add n)=some (.string TT):=(AY _ _ _ _ (fun e=>hne (by rw[←e]))).trans hcl
 have k0:=HE8.out.cells.2.2.1
 go_wp2_with fail
 refine ED HF2 ?_ ⟨k0,k1⟩
 repeat(first|((first|refine Dt ?_|refine Du ?_);intro K hK;go_big_quiet_op;go_big_quiet_on)|((first|refine Dv ?_|refine Dw ?_);simp only[Act.put,AB,AE,AF]))
 refine A0g ?_
 refine A6d ?_
 have HC8:=AA (HC7.out.trans (Chg.of_gb (K:=EdK g vB (.slice (some ad) (n+1) c)) (A1F (A3Y (A0U w7 (some g))) 0 (.string TT)) (fun k hk=> .inl (by simpa using hk.symm))) (fun _ h _=>h))
 have HE9:=AA (HE8.out.cutO (k:=n) HLEN.out.symm EE EH)
 have HC9:=AA (HC8.out.trans (Chg.of_gb (K:=EdK g vB (.slice (some ad) (n+1) c)) (A1F (A0U _ (some g)) 2 (.slice (some ad) n c)) (fun k hk=> .inl (by simpa using hk.symm))) (fun _ h _=>h))
 obtain⟨_,_,p1,_,_,pf1,pg⟩:=HE8.out.cells
 have p1':(w7.setCell ⟨g,0,none⟩ (.string TT)).cell? ⟨g,2,none⟩=some (.slice (some ad) (n+1) c):=p1
 have pf1':(w7.setCell ⟨g,0,none⟩ (.string TT)).frozen? ⟨g,2,none⟩=false:=pf1
 clear HF2 hcell20 hcell21 hne2 c0 c1 c2 f0 f1 f2 k0 k1 hcl
 go_wp2_with fail
 go_ret
 refine⟨rfl,.slice A6 (sb.length+1) c6,.slice (some ad) n c, ?_,HC9.out,fun k hk=> ?_,fun k hk=> .inr (.inl hk)⟩
 ·rw[HU.out];exact HE9.out
 ·exact HFR.out k hk
theorem B8c{w:World}{base:Nat}{A:Option Addr}{m c k:Nat}{l:List (List UInt8)}(h:OwnO w base 9 1 (.slice A m c) l.length (strCells l))(hm:m=l.length)(hk:k≤m)(hA:A≠none):OwnO w base 9 1 (.slice (if c=k then A else A.map (·.add k)) (m-k) (c-k)) (l.drop k).length (strCells (l.drop k)):=by
 subst hm
 have:=h.behind A c k rfl hk hA
 rw[Nat.mul_one] at this
 rw[AZ,strCells,List.map_drop]
 exact this
theorem EdSt.dropB{w:World}{base g:Nat}{st:List UInt8}{sb so:List (List UInt8)}{ad:Addr}{m c k:Nat}{vO:Value}(h:EdSt w base g ⟨st,sb,so⟩ (.slice (some ad) m c) vO)(hm:m=sb.length)(hk:k≤m)(hc:¬c=k):
 EdSt (w.setCell ⟨g,1,none⟩ (.slice (some (ad.add k)) (m-k) (c-k))) base g ⟨st,sb.drop k,so⟩ (.slice (some (ad.add k)) (m-k) (c-k)) vO:=by
 have h1:=B8c h.b hm hk EH
 rw[if_neg hc] at h1
 simp only[CC] at h1
 refine⟨h.blk.set_ 1 _,h.lo,h1.far (h1.ne_blk h.blk EF) _ _,h.o.far (h.o.ne_blk h.blk EF) _ _, ?_⟩
 have:=h.ap
 simpa[Apart,Value.ownBlock,A0z] using this
theorem EdSt.nilO{w:World}{base g:Nat}{st:List UInt8}{sb so:List (List UInt8)}{vB vO:Value}(h:EdSt w base g ⟨st,sb,so⟩ vB vO):EdSt (w.setCell ⟨g,2,none⟩ (.slice none 0 0)) base g ⟨st,sb,[]⟩ vB (.slice none 0 0):=
 ⟨h.blk.set_ 2 _,h.lo,h.b.far (h.b.ne_blk h.blk EF) _ _,OwnO.nil_,(Apart.none_left _).comm⟩
theorem edDoS(base g:Nat)(s:Es)(vB vO:Value)(w:World)(h:EdSt w base g s vB vO)(hB0:base≤w.heap.size)(hok:EsOk s)(l:List Ed)(A:Option Addr)(m c B:Nat)(hr:Rd w B 3 A m (A0f l))(hB:B≤w.heap.size)(hm:m≤9223372036854775807)(hE:doE s l=0):
 Calls Tryz.prog 54 #[.pointer (some ⟨g,0,none⟩),.slice A m c] w fun e w'=>e= .returned (.int .i64 0)∧∃vB' vO',EdSt w' base g (doS s l) vB' vO'∧Chg w w' (EdK g vB vO)∧A3P w vB' vB vO∧A3P w vO' vB vO:=by
 obtain⟨i0,hi0,hz0,hz1,hz2⟩:=info_parts A2C
 have hlen:=Rd.rec_len A2v EE hr
 have HR:=AA hr
 have hS:Hid (doS s l=⟨A0C s.text l,(s.back++ [s.text]).drop (s.back.length+1-30),[]⟩):=by unfold Hid doS;rw[if_pos hE]
 have he:A0n s.text.length l=0∧¬l.length=0:=by
  unfold doE at hE
  by_cases he:A0n s.text.length l=0
  ·rw[if_pos he] at hE
   refine⟨he,fun hl=> ?_⟩
   rw[if_pos hl] at hE;cases hE
  ·rw[if_neg he] at hE;exact absurd hE he
 obtain⟨he1,he2⟩:=he
 have HAP:Hid (A5b (S s.text) l=S (A0C s.text l)∧A0n (S s.text).size l=0):=by
  unfold Hid
  rw[A0b]
  refine⟨?_,he1⟩
  unfold A5b
  rw[A0b,L_S,if_pos he1,A5B he1]
 have g1:((m:Int)==0)=false:=by rw[AH];omega
 have hs2:(S s.text).size≤200:=by rw[A0b];exact hok.t
 have hnn:=hok.n
 clear he1 he2 hE hr hlen hok
 have HE:=AA h
 obtain⟨c0,c1,c2,f0,f1,f2,hg⟩:=h.cells
 clear h
 obtain⟨st,sb,so⟩:=s
 simp only at*
 go_enter Tryz.func54,Tryz.ntmps54
 go_wp2_with fail
 refine(A5T (S st) l A m c B _ HR.out hB hm EE).mono ?_
 rintro e w1 ⟨rfl,hb1⟩
 rw[HAP.out.1,HAP.out.2]
 have HE1:=AA (HE.out.below hb1)
 have HB1:=AA hb1
 have hbs1:=hb1.size
 have hC1:=AA (Chg.of_below hb1 (EdK g vB vO))
 clear c0 c1 c2 f0 f1 f2 hg hb1 HE
 obtain⟨c0,c1,c2,f0,f1,f2,hg⟩:=HE1.out.cells
 generalize A0C st l=T at*
 generalize hTT:S T=TT at*
 have HTT:=AA hTT
 clear hTT
 go_wp2_with fail
 obtain⟨F1,HF1,hcell10,hcell11⟩:=cells2 ⟨g,0,none⟩ (.string (S st)) ⟨g,1,none⟩ (vB)
 refine A2a [(0,true),(1,true),(2,true),(3,true),(4,true),(5,true),(6,true),(7,true),(8,true),(9,false),(10,false),(11,true),(12,true)] 13 _ F1 EG EG rfl EG rfl (fun _ _ _ _ _ h=>h) EG (by rw[HF1.out];first|((repeat' apply And.intro)<;>assumption)|trivial|(simp;done)|(simp[*];done)) (by rw[HF1.out];exact fun h=>h) ?_
 intro hne1
 simp only[A0i,AT,AP,AR]
 repeat(first|((first|refine Dt ?_|refine Du ?_);intro K hK;go_big_quiet_op;go_big_quiet_on)|((first|refine Dv ?_|refine Dw ?_);simp only[Act.put,AB,AE,AF]))
 refine A0a ?_
 go_wp2_with fail
 refine ED HF1 ?_
 repeat(first|((first|refine Dt ?_|refine Du ?_);intro K hK;go_big_quiet_op;go_big_quiet_on)|((first|refine Dv ?_|refine Dw ?_);simp only[Act.put,AB,AE,AF]))
 refine A0a ?_
 have hO1:∀o,OwnO (w1.alloc o).drew base 9 1 vB sb.length (strCells sb):=fun o=>HE1.out.b.below Ds
 have hnw:∀j u,[Value.string (S st)][j]? =some u→((w1.alloc (.cells #[.string (S st)] 9)).drew).cell? (Addr.add ⟨w1.heap.size,0,none⟩ j)=some u:=fun j u hj=>A3m w1 #[.string (S st)] 9 j u hj
 have hnb:=HE1.out.b.ne_blk HE1.out.blk EF
 go_wp2_with (at_builtin;go_must (refine A3J rfl _ _ _ rfl base 9 i0 _ 1 16 Tryz.underlying25 hi0 hz0 hz1 hz2 rfl EE _ sb.length (strCells sb) rfl (hO1 _) ⟨w1.heap.size,0,none⟩ 1 1 [.string (S st)] rfl rfl hnw (by simp[Value.oneCell']) EE EE (by simp;omega) ?_);intro v6 w6 hown6 hg6 hb6 ha6;obtain⟨A6,c6,rfl,hnc6,hcm6,hrd6⟩:=OwnO.form hown6)
 have hg6':(w1.alloc (.cells #[.string (S st)] 9)).drew.grownBy w6 vB.ownBlock:=hg6
 have hgv:some g≠vB.ownBlock:=fun e=>by rcases hnb with h|h<;>rw[←e] at h<;>simp at h
 have k0:=hg6'.cell (a:=⟨g,0,none⟩) (v:= .string (S st)) ((BQ w1 _ _ hg).trans c0) hgv
 have k1:=hg6'.cell (a:=⟨g,1,none⟩) (v:=vB) ((BQ w1 _ _ hg).trans c1) hgv
 have HE2:EdSt (w1.alloc (.cells #[.string (S st)] 9)).drew base g ⟨st,sb,so⟩ vB vO:=HE1.out.below Ds
 obtain⟨ad,rfl,hab,_⟩:=hrd6.2 EE
 have hE7:=AA (HE2.appB hg6' hgv (by first|exact hown6|simpa using hown6) ha6)
 have HC7:=AA (((hC1.out.trans (Chg.of_below (w:=w1) (w':=(w1.alloc (.cells #[.string (S st)] 9)).drew) Ds (EdK g vB vO)) (fun _ h _=>h)).trans (Chg.of_gb (K:=EdK g vB vO) hg6' (fun k hk=> .inr (.inl hk))) (fun _ h _=>h)).trans (Chg.of_gb (K:=EdK g vB vO) (A1F (A0U w6 (some g)) 1 (.slice (some ad) (sb.length+1) c6)) (fun k hk=> .inl (by simpa using hk.symm))) (fun _ h _=>h))
 have HFR:Hid (∀k,some ad.block=some k→vB.ownBlock=some k∨vO.ownBlock=some k∨w.heap.size≤k):=fun k hk=>by
  have h1:some ad.block=vB.ownBlock∨some ad.block=some (w1.alloc (.cells #[.string (S st)] 9)).drew.heap.size:=ha6
  exact C2a
 refine ED HF1 ?_ ⟨k0,k1⟩
 repeat(first|((first|refine Dt ?_|refine Du ?_);intro K hK;go_big_quiet_op;go_big_quiet_on)|((first|refine Dv ?_|refine Dw ?_);simp only[Act.put,AB,AE,AF]))
 refine A0g ?_
 refine A6d ?_
 have q1f:w6.frozen? ⟨g,1,none⟩=false:=(HE2.blk.grown hg6' hgv).frozen 1
 clear HF1 hcell10 hcell11 hne1
 obtain⟨p0,p1,p2,pf0,pf1,pf2,pg⟩:=hE7.out.cells
 by_cases h30:30<sb.length+1
 ·have g2:decide ((30:Int)<(sb.length:Int)+1)=true:=AG EE
  go_wp2_with fail
  go_ret
  have HE8:=(hE7.out.dropB (k:=1) EH EE EE)
  have HE9:=(HE8.text_ T).nilO
  have HC9:=((HC7.out.trans (Chg.of_gb (K:=EdK g vB vO) (A1F (A0U _ (some g)) 1 (.slice (some (ad.add 1)) (sb.length+1-1) (c6-1))) (fun k hk=> .inl (by simpa using hk.symm))) (fun _ h _=>h)).trans (Chg.of_gb (K:=EdK g vB vO) (A1F (A0U _ (some g)) 0 (.string (S T))) (fun k hk=> .inl (by simpa using hk.symm))) (fun _ h _=>h)).trans (Chg.of_gb (K:=EdK g vB vO) (A1F (A0U _ (some g)) 2 (.slice none 0 0)) (fun k hk=> .inl (by simpa using hk.symm))) (fun _ h _=>h)
  rw[HTT.out] at HE9 HC9
  have e30:sb.length+1-30=1:=EE
  rw[hS.out,e30]
  exact⟨rfl,_,_,HE9,HC9,fun k hk=>HFR.out k (by simpa[Value.ownBlock,A0z] using hk),fun k hk=>by simp[Value.ownBlock] at hk⟩
 ·have g2:decide ((30:Int)<(sb.length:Int)+1)=false:=AC EE
  go_wp2_with fail
  go_ret
  have HE9:=(hE7.out.text_ T).nilO
  have HC9:=(HC7.out.trans (Chg.of_gb (K:=EdK g vB vO) (A1F (A0U _ (some g)) 0 (.string (S T))) (fun k hk=> .inl (by simpa using hk.symm))) (fun _ h _=>h)).trans (Chg.of_gb (K:=EdK g vB vO) (A1F (A0U _ (some g)) 2 (.slice none 0 0)) (fun k hk=> .inl (by simpa using hk.symm))) (fun _ h _=>h)
  rw[HTT.out] at HE9 HC9
  have e30:sb.length+1-30=0:=EE
  rw[hS.out,e30,Az]
  exact⟨rfl,_,_,HE9,HC9,fun k hk=>HFR.out k hk,fun k hk=>by simp[Value.ownBlock] at hk⟩
end Go.Proofs.YtplgghjdidmcfaaGreatDoor
