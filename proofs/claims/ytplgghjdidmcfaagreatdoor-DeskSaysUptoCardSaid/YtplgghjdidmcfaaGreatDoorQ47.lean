/- Written anew, smaller, by a program of our own out of our texts. No condition of our own. -/
import Derived.Test.YtplgghjdidmcfaaGreatDoorQ10
import Derived.Test.YtplgghjdidmcfaaGreatDoorQ46
import Derived.LaidSub
import Derived.Leaving
import Derived.ClaimOpenTies
import Derived.Lib.LaidTab
import Derived.Test.YtplgghjdidmcfaaGreatDoorCards
import Derived.Test.YtplgghjdidmcfaaGreatDoorTie
import Derived.Deep.DeepHandedRow
set_option maxRecDepth 100000
set_option maxHeartbeats 16000000
set_option linter.all false
namespace Go.Proofs.YtplgghjdidmcfaaGreatDoor.lawDeskSays
open Go.ChangeShapes Go.WideShapes Go.ChangeAt Go.RowKit Go.Deep
open Go.ChangeMaps (open_string)
set_option linter.unusedVariables false
def A6m:Prop:=∀(s:ByteArray) (mx:Int) (w:World),s.size≤1048576→TabI w→w.cell? ⟨0,0,none⟩=some (.int .i64 mx)→0<w.heap.size→
 Calls Tryz.prog 5 #[.string s] w fun e w'=>e= .returned (.bool true)∧Below w.heap.size w w'
theorem own:ownKnob Tryz.prog.godebug=none:=by kernel_rfl
theorem B9x:laidOutB Tryz.prog=true:=by kernel_rfl
theorem B8y:(Tryz.f5.params.toList.all fun t=>Tryz.prog.readableRec t&&decide (t<Tryz.prog.types.size))=true:=by kernel_rfl
theorem B7n:∀t∈Tryz.f5.params.toList,Tryz.prog.readableRec t=true∧t<Tryz.prog.types.size:=by
 intro t ht
 have:=CP.1 B8y t ht
 simpa using this
theorem tabI{W:World}(hL:laidMetH Tryz.prog Rows.deskSaysUptoRow.laid W):TabI W:=by
 have h1:=laidMetH.filter (fun x=>x.1== "internal/strconv.uint64pow10") hL
 have h2:=(laidMetH_iff.1 h1).1
 have e:(List.filter (fun x=>x.2.handleName?.isNone) (List.filter (fun x=>x.1== "internal/strconv.uint64pow10") Rows.deskSaysUptoRow.laid))=[("internal/strconv.uint64pow10",Lib.tabData .u64 Lib.pow10Tab)]:=by kernel_rfl
 rw[e] at h2
 exact Lib.tabIs_of_head (g:=3) (n:=20) (e:=101) (t:=291) EG EG EG EG EG EG h2
theorem B8z(hA9:A6m)(H:Type)(enc:TypeId×Value→H)(W:World)(base:Nat)(args:Array Value)(ds gs:List (DataW H))(A6f:List MemPlace)(hval:∀(j:Nat) t v,Tryz.f5.params[j]? =some t→args[j]? =some v→Value.okWide Tryz.prog W .any base t v)(hW:DataW.Whole enc Tryz.prog Tryz.f5.params.toList Rows.deskSaysSpec.vars false W args.toList ds gs A6f)(hsz:(DataW.weightsEach Tryz.prog Tryz.f5.params.toList ds).all (·≤reachBytes)=true)(hsh:W.ShapedOpen Tryz.prog)(hk:Rows.uptoSmall H (ds++gs)=true)(hL:laidMetH Tryz.prog Rows.deskSaysUptoRow.laid W):
 Calls Tryz.prog 5 args W fun e W'=>∃v,e= .returned v∧Rows.deskSaysSpec.post enc Tryz.prog Tryz.f5 false true false false W args v W':=by
 have hW':=hW
 obtain⟨p,q,hA0,hV,rfl,hfz,hnd⟩:=hW
 have hA:DataW.TrodAll enc Tryz.prog W 0 (fun _=>true) true Tryz.f5.params.toList args.toList ds p:=hA0
 clear hA0
 rw[Tryz.params5] at hA hval hsz
 obtain⟨v0,vs0,d0,ds0,p0,q0,hargs,rfl,rfl,h0,r0⟩:=trodAll_cons hA
 obtain⟨rfl,rfl,rfl⟩:=trodAll_nil r0
 obtain rfl:args= #[v0]:=by cases args;simp_all
 clear hargs
 obtain⟨rfl,rfl⟩:=trodVars_none hV
 obtain⟨a1,rfl,rfl,rfl,w1⟩:=open_string Tryz.underlying9 (hval 0 9 v0 rfl rfl) h0
 have y1:a1.size≤1048576:=AQ (DS (blen a1).symm) (B3p hk EH)
 have hT:=tabI hL
 obtain⟨mx,hmx⟩:=Tryz.laysM145.s1_3 W hsh
 have hw0:0<W.heap.size:=World.block_lt_of_cell? _ _ hmx
 refine(hA9 a1 mx W y1 hT hmx hw0).mono fun e W' ⟨he,hb⟩=> ?_
 subst he
 exact⟨_,rfl,law_close hW' rfl rfl rfl Tryz.underlying4 B9x B7n hb⟩
theorem wants:(Tryz.f5.params.toList.all fun t=> !Tryz.prog.wantsStandIn t)=true:=by kernel_rfl
def nums(l:List Int):Array Value:=(l.map (Value.int .u8)).toArray
def setG(w:World)(g:Nat)(cs:Array Value):World:=
 {w with heap:=w.heap.modify g fun
  | .cells _ t frozen=> .cells cs t frozen
  |o=>o}
noncomputable def low:Nat:=(World.holding Tryz.prog default ⟨#[],#[],[]⟩).heap.size
noncomputable def world0(os:Os):World:=World.holding Tryz.prog os ⟨#[.cells #[.string ⟨#[118,97,108,117,101,32,111,117,116,32,111,102,32,114,97,110,103,101]⟩] 311,.cells #[.string ⟨#[105,110,118,97,108,105,100,32,115,121,110,116,97,120]⟩] 311],#[],[]⟩
noncomputable def world1(os:Os):World:=setG (setG (world0 os) 1 (nums [240,240,240,240,240,240,240,240,240,240,240,240,240,240,240,240,240,240,240,240,240,240,240,240,240,240,240,240,240,240,240,240,240,240,240,240,240,240,240,240,240,240,240,240,240,240,240,240,240,240,240,240,240,240,240,240,240,240,240,240,240,240,240,240,240,240,240,240,240,240,240,240,240,240,240,240,240,240,240,240,240,240,240,240,240,240,240,240,240,240,240,240,240,240,240,240,240,240,240,240,240,240,240,240,240,240,240,240,240,240,240,240,240,240,240,240,240,240,240,240,240,240,240,240,240,240,240,240,241,241,241,241,241,241,241,241,241,241,241,241,241,241,241,241,241,241,241,241,241,241,241,241,241,241,241,241,241,241,241,241,241,241,241,241,241,241,241,241,241,241,241,241,241,241,241,241,241,241,241,241,241,241,241,241,241,241,241,241,241,241,241,241,241,241,2,2,2,2,2,2,2,2,2,2,2,2,2,2,2,2,2,2,2,2,2,2,2,2,2,2,2,2,2,2,19,3,3,3,3,3,3,3,3,3,3,3,3,35,3,3,52,4,4,4,68,241,241,241,241,241,241,241,241,241,241,241])) 2 (nums [128,191,160,191,128,159,144,191,128,143,0,0,0,0,0,0,0,0,0,0,0,0,0,0,0,0,0,0,0,0,0,0])
noncomputable def world2(os:Os):World:=setG (setG (setG (world1 os) 6 (nums [0,1,28,2,29,14,24,3,30,22,20,15,25,17,4,8,31,27,13,23,21,19,16,7,26,12,18,6,11,5,10,9])) 7 (nums [0,1,56,2,57,49,28,3,61,58,42,50,38,29,17,4,62,47,59,36,45,43,51,22,53,39,33,30,24,18,12,5,63,55,48,27,60,41,37,16,46,35,44,21,52,32,23,11,54,26,40,15,34,20,31,10,25,14,19,9,13,8,7,6])) 3 (Lib.pow10Tab.map (Value.int .u64)).toArray
noncomputable def A7t(os:Os):World:=
 setG (setG (world2 os) 5 #[.iface 309 (.pointer (some ⟨low,0,none⟩))]) 4 #[.iface 309 (.pointer (some ⟨low+1,0,none⟩))]
theorem B8A(os:Os):laidMet Tryz.prog Rows.deskSaysUptoRow.laid ((A7t os).forCall (fun _ _=>0) ⟨#[],#[.string ⟨#[]⟩],[]⟩).memory:=
 laidMet_of_run' 8 EG (by kernel_rfl)
theorem reads(os:Os){H:Type}(enc:TypeId×Value→H):∃places,DataW.whole enc Tryz.prog ((A7t os).forCall (fun _ _=>0) ⟨#[],#[.string ⟨#[]⟩],[]⟩).memory Tryz.f5.params.toList Rows.deskSaysSpec.vars false (#[.string ⟨#[]⟩]:Array Value).toList 8=some ([.lit (.string [])],[],places):=
 ⟨[],by kernel_rfl⟩
theorem lifted(hA9:A6m)(os:Os)(started:os.Started)(H:Type)(enc:TypeId×Value→H)(F:Stop.Interp):
 ReturnsInHanded {} Tryz.checked os 5 .any ((Rows.OpenSpec.upto Rows.deskSaysSpec).preRow enc Tryz.prog Tryz.f5 Rows.deskSaysUptoRow.domain false Rows.deskSaysUptoRow.laid) (((Rows.OpenSpec.upto Rows.deskSaysSpec).at F).post enc Tryz.prog Tryz.f5 false true false false):=by
 obtain⟨places,hx⟩:=reads os enc
 refine returnsInHanded_of_row (C:=Tryz.checked) (s:=Rows.OpenSpec.upto Rows.deskSaysSpec) own started EG Tryz.func5
  (witness_row_at (enc:=enc) (C:=Tryz.checked) false (A7t os) #[.string ⟨#[]⟩] rfl EG EG EG
   (OpenSpec.preRow_of_cond 8 hx EG (fun k hk=>by cases hk;kernel_rfl) EG (B8A os))) ?_
 intro W base args ds gs A6f hval hW _ hcc hsz hL hsh _
 have hg:gs=[]:=by
  obtain⟨_,_,_,hV,_⟩:=hW
  exact(trodVars_none hV).1
 subst hg
 refine B8z hA9 H enc W base args ds [] A6f hval hW ?_ hsh (hcc _ rfl) hL
 have e1:Tryz.f5.params.toList++(Rows.OpenSpec.upto Rows.deskSaysSpec).bare.plain.varTypes Tryz.checked.prog=Tryz.f5.params.toList:=rfl
 rw[e1,Aq] at hsz
 exact hsz
def row0:OpenClaim:={Rows.deskSaysUptoRow with leaving:=false}
theorem said0(hA9:A6m):row0.holds Tryz.pinned (Rows.OpenSpec.upto Rows.deskSaysSpec):=
 OpenClaim.holds_of_cond 5 Tryz.f5 rfl rfl rfl rfl rfl rfl rfl ⟨rfl,rfl,rfl,rfl,rfl⟩ rfl rfl rfl rfl rfl EG Tryz.func5 EG
  (CA EG) (by unfold Func.isWrapper;first|(rw[if_pos (by decide+kernel)];kernel_rfl)|(rw[if_neg (by decide+kernel)];exact⟨rfl,rfl⟩))
  (fun os started H enc _ F=>by rw[OpenClaim.pre_eq_preRow];exact lifted hA9 os started H enc F)
theorem said(hA9:A6m):Rows.DeskSaysUptoSaid:=leave (c:=row0) rfl rfl rfl EG (said0 hA9)
theorem plain(f:FuncId)(fn:Func)(hf:Tryz.pinned.checked.prog.funcNamed "quillward/quilllaw.DeskSays" =some f)(hfn:Tryz.pinned.checked.prog.funcs[f]? =some fn):
 true=Tryz.pinned.checked.prog.looks []∧∀(j:Nat) t,fn.params[j]? =some t→Tryz.pinned.checked.prog.wantsStandIn t=false:=by
 obtain rfl:f=5:=Aw ((show Tryz.prog.funcNamed "quillward/quilllaw.DeskSays" =some 5 by kernel_rfl).symm.trans hf)|>.symm
 obtain rfl:fn=Tryz.f5:=(Aw (Tryz.func5.symm.trans hfn)).symm
 refine⟨by kernel_rfl,fun j t ht=> ?_⟩
 have h:=CP.1 wants t (Array.mem_toList_iff.2 (Array.mem_of_getElem? ht))
 show Tryz.prog.wantsStandIn t=false
 simpa using h
theorem B7o(hA9:A6m):Rows.DeskSaysUptoCardSaid:=
 B7m _ _ _ _ (said hA9) EG deskSaysUpto_row_tie rfl ⟨rfl,rfl⟩ EG rfl plain (by kernel_rfl)
end Go.Proofs.YtplgghjdidmcfaaGreatDoor.lawDeskSays
