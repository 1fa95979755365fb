/- Written anew, smaller, by a program of our own out of our texts. No condition of our own. -/
import Derived.Test.YtplgghjdidmcfaaGreatDoorRows
import Derived.Test.YtplgghjdidmcfaaGreatDoorQ01
import Derived.ProofKit
import Derived.OpenShut
import Derived.SizedLaws
import Derived.Deep.Slices
import Derived.Deep.Fields
import Derived.Lib.SmallJoins
import Derived.Test.YtplgghjdidmcfaaGreatDoorCards
import Derived.Leaving
import Derived.ClaimOpenTies
import Derived.SevenTiedAt
set_option maxRecDepth 100000
set_option maxHeartbeats 16000000
set_option linter.all false
namespace Go.Proofs.YtplgghjdidmcfaaGreatDoor
theorem B7l{H:Type}{d:DataW H}{l:List (DataW H)}(h:d∈l):Rows.uptoBulk d≤Rows.uptoBulkAll l:=by
 induction l with
 |nil=>cases h
 |cons x r ih=>
  simp only[Rows.uptoBulkAll]
  rcases Br.1 h with e|e
  ·subst e;omega
  ·have:=ih e;omega
theorem B5d{H:Type}{l:List (DataW H)}(hk:Rows.uptoSmall H l=true):Rows.uptoBulkAll l≤1048576:=by
 have:=CA hk
 exact this
theorem B3p{H:Type}{l:List (DataW H)}(hk:Rows.uptoSmall H l=true){bytes:List UInt8}(h:DataW.lit (.string bytes)∈l):bytes.length≤1048576:=by
 have h1:=B7l h
 have h2:=B5d hk
 have h3:Rows.uptoBulk (DataW.lit (H:=H) (.string bytes))=bytes.length+1:=by simp[Rows.uptoBulk]
 omega
end Go.Proofs.YtplgghjdidmcfaaGreatDoor
namespace Go.Proofs.YtplgghjdidmcfaaGreatDoor
open Go.ChangeShapes Go.WideShapes Go.ChangeAt Go.RowKit Go.Deep
open Go.ChangeMaps (open_string)
section
variable {H:Type} {enc:TypeId×Value→H} {P:Program} {W:World}
theorem A6J(hl:laidOutB P=true){W':World}(hb:Below W.heap.size W W'):∀(ts:List TypeId) (vs:List Value) (ds:List (DataW H)) (ps:List MemPlace),
 (∀t∈ts,P.readableRec t=true∧t<P.types.size)→(∀x∈ps,x.block<W.heap.size)→DataW.TrodAll enc P W 0 (fun _=>true) true ts vs ds ps→
 DataW.TrodAll enc P W' 0 (fun b=>decide (b<W.heap.size)) true ts vs ds ps
 |[],[],[],_,_,_,h=>h
 |t::ts,v::vs,d::ds,ps,hr,hp,h=>by
  obtain⟨p,q,h1,h2,rfl⟩:=h
  exact⟨p,q,Below.trod hl (hr t EH).1 (hr t EH).2 h1 hb (fun x hx=>hp x (by simp[hx])),A6J hl hb ts vs ds q (fun t ht=>hr t (by simp[ht])) (fun x hx=>hp x (by simp[hx])) h2,rfl⟩
 |[],_::_,_,_,_,_,h=>by cases h
 |[],[],_::_,_,_,_,h=>by cases h
 |_::_,[],_,_,_,_,h=>by cases h
 |_::_,_::_,[],_,_,_,h=>by cases h
theorem law_close{f:Func}{s:ChangeSpec}{W':World}{args:Array Value}{ds:List (DataW H)}{A6f:List MemPlace}{tb:TypeId}(hW:DataW.Whole enc P f.params.toList s.vars false W args.toList ds [] A6f)(hs:s.vars=[])(hfn:s.fn H (ds++ [])={results:=[.lit (.bool true)],args:=ds})(hres:f.resultTypes= #[tb])(hu:P.underlying tb=some .bool)(hl:laidOutB P=true)(hr:∀t∈f.params.toList,P.readableRec t=true∧t<P.types.size)(hb:Below W.heap.size W W'):s.post enc P f false true false false W args (.bool true) W':=by
 have hlt:=hW.lt
 have hW':=hW
 obtain⟨p,q,hA,hV,rfl,_,_⟩:=hW
 rw[hs] at hV
 obtain⟨_,rfl⟩:=trodVars_none hV
 simp only[Aq] at hW' hlt
 refine⟨ds,[],p,[],p,[],hW', ?_, ?_, ?_, ?_,fun h=>by cases h⟩
 ·rw[hfn,hres]
  exact trodAll_mk1 (shut_bool hu true)
 ·rw[hfn]
  exact A6J hl hb _ _ _ _ hr hlt hA
 ·rw[hfn,hs]
  rfl
 ·exact hb.frame _
end
end Go.Proofs.YtplgghjdidmcfaaGreatDoor
namespace Go.Proofs.YtplgghjdidmcfaaGreatDoor
theorem B5e{c:OpenClaim}{C:Checked}{os:Os}{f:FuncId}{L:List FuncId}{Pre:World→Array Value→Prop}{Post:Stop.Interp→World→Array Value→Value→World→Prop}(hl:c.leaving=false)(hst:c.start= .entering)(hs:c.stops=[])(h:c.form C os f L Pre Post):({c with leaving:=true}:OpenClaim).form C os f L Pre Post:=by
 have h1:∀F:Stop.Interp,ReturnsInOpen c.assume none C os f .any c.okInput Pre (Post F) (c.atReturn C.prog) (c.always C.prog L):=by
  unfold OpenClaim.form at h
  rw[hst,hs] at h
  exact h
 have h2:∀F:Stop.Interp,ReturnsInOpen c.assume none C os f .any c.okInput Pre (Post F) (leavingAtReturn C.prog) (c.always C.prog L):=fun F=>by
  refine ReturnsInOpen.mono (fun m w t hm=> ?_) (fun _ x=>x) (h1 F)
  unfold OpenClaim.atReturn at hm
  rw[hl] at hm
  exact⟨hm.2.1,onlyLeaving_of_quiet hm.1,hm.2.2⟩
 cases c
 simp only at hst hs
 subst hst hs
 exact h2
theorem leave{p:Pinned}{s:OpenSpec}{c:OpenClaim}(hl:c.leaving=false)(hst:c.start= .entering)(hs:c.stops=[])(hw:OpenClaim.wf s {c with leaving:=true}=true)(h:c.holds p s):OpenClaim.holds p s {c with leaving:=true}:=by
 unfold OpenClaim.holds at h
 obtain⟨_,a2,a3,a4,a5,a6,a7,a8,f,fn,g1,g2,r,b1,b2,b3,b4,b5,k,c1,c2,c3,c4,c5,c6,m,l,q,n1,v1,e1,L,hL,all⟩:=h
 exact⟨hw,a2,a3,a4,a5,a6,a7,a8,f,fn,g1,g2,r,b1,b2,b3,b4,b5,k,c1,c2,c3,c4,c5,c6,m,l,q,n1,v1,e1,L,hL,fun os x y H enc inj=>B5e hl hst hs (all os x y H enc inj)⟩
theorem B7m{p:Pinned}{s:OpenSpec}{c:OpenClaim}(kinds:List LaidKind)(tests:Bool)(har:Bool×String)(lk:Bool)(hc:c.holds p s)(hw:c.wfByText s=true)(htie:c.laidByTextAt .later p kinds tests)(hst:c.start= .entering)(hnb:c.noBlocks=false∧c.again=false)(hm:p.checked.prog.mainIs=some (har.1,har.2.toList))(hn:(!har.1&&har.2.isEmpty&& !lk)=false)(hl:∀f fn,p.checked.prog.funcNamed c.func=some f→p.checked.prog.funcs[f]? =some fn→lk=p.checked.prog.looks []∧∀(j:Nat) t,fn.params[j]? =some t→p.checked.prog.wantsStandIn t=false)(hg:true=c.goesBy p.checked.prog):
 Claim7.holds p (.plain s) {stood:={row:=c,standIns:=[],harness:=har,looks:=lk},kinds:=[],alts:=[],goes:=true,laidByText:=true,laidKinds:=kinds,laidTests:=tests,laidLooks:= .later}:=by
 have h6:Claim7.isSixth {stood:={row:=c,standIns:=[],harness:=har,looks:=lk},kinds:=[]}=false:=by simpa[Claim7.isSixth] using hn
 exact⟨Claim7.tied_new_at .later kinds tests (Claim7.new_of_sixth hc har lk hst hnb hm h6 hl) hw,(fun D hD=>by cases hD),htie,(fun h=>by cases h),hg⟩
end Go.Proofs.YtplgghjdidmcfaaGreatDoor
