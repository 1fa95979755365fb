/- Written anew, smaller, by a program of our own out of our texts. No condition of our own. -/
import Derived.Test.YtplgghjdidmcfaaGreatDoorQ08
import Derived.Test.YtplgghjdidmcfaaGreatDoorQ22
import Derived.Test.YtplgghjdidmcfaaGreatDoorQ15
import Derived.Test.YtplgghjdidmcfaaGreatDoorQ24
import Derived.Lib.QuietBelow
set_option maxRecDepth 100000
set_option maxHeartbeats 16000000
set_option linter.all false
namespace Go.Proofs.YtplgghjdidmcfaaGreatDoor
open Go.RowKit
theorem C0y{P:Prop}(h:P:=by
 have HA3:=AA (fun(W:World) (hW:RowT W base ad c N (A++(u1.merge v1 leT++(u2++(v2++C)))))=>(show RowT W base ad c N ((A++u1.merge v1 leT)++(u2++(v2++C))) by rw[AN];exact hW))
 have HC3:=AA (fun(W:World) (hW:RowT W base ad c N ((A++u1.merge v1 leT)++(u2++(v2++C))))=>HIH.out (A++u1.merge v1 leT) u2 v2 C ad c N base mid en b W hW hN (by rw[AJ,A5K];omega) EE EE EE EE s2 s4 (fun z hz=>HQM.out z (by simp only[Af,A4o] at hz;rcases hz with(h|h|h)|h|h|h<;>simp[h])) EE)
 have HFN:=AA (fun(W:World) (hW:RowT W base ad c N ((A++u1.merge v1 leT)++(u2.merge v2 leT++C)))=>(show RowT W base ad c N (A++(u.merge v leT++C)) by rw[HMG.out,AN];rw[AN] at hW;exact hW))
 clear h1 l1 l2 l3 l4 s1 s2 s3 s4 hme hsm HLN HSS HMID HSUM HQM HMG HR1' HIH
 go_wp2_with fail
 have HR3:=AA (HA2.out _ HR2.out)
 have HR4:=AA (HC2.out _ HR3.out)
 exact C2A
 ):P:=h
theorem C0z{P:Prop}(h:P:=by
 have HFN:=AA (fun(W:World) (hW:RowT W base ad c N ((A++u1.merge v1 leT)++(u2.merge v2 leT++C)))=>(show RowT W base ad c N (A++(u.merge v leT++C)) by rw[HMG.out,AN];rw[AN] at hW;exact hW))
 clear h1 l1 l2 l3 l4 s1 s2 s3 s4 hme hsm HLN HSS HMID HSUM HQM HMG HR1' HIH
 exact C2X
 ):P:=h
theorem C0D{P:Prop}(h:P:=by
 exact C2X
 ):P:=h
theorem C0F{P:Prop}(h:P:=by
 have HA2:=AA (fun(W:World) (hW:RowT W base ad c N ((A++u1)++(v1++(u2++(v2++C)))))=>(show RowT W base ad c N (A++(u1++(v1++(u2++(v2++C))))) by rw[←AN];exact hW))
 have HC2:=AA (fun(W:World) (hW:RowT W base ad c N (A++(u1++(v1++(u2++(v2++C))))))=>HIH.out A u1 v1 (u2++(v2++C)) ad c N base a i mid W hW hN h1 EE EE EE EE s1 s3 (fun z hz=>HQM.out z (by simp only[Af] at hz;rcases hz with h|h|h|h|h|h<;>simp[h])) EE)
 have HA3:=AA (fun(W:World) (hW:RowT W base ad c N (A++(u1.merge v1 leT++(u2++(v2++C)))))=>(show RowT W base ad c N ((A++u1.merge v1 leT)++(u2++(v2++C))) by rw[AN];exact hW))
 have HC3:=AA (fun(W:World) (hW:RowT W base ad c N ((A++u1.merge v1 leT)++(u2++(v2++C))))=>HIH.out (A++u1.merge v1 leT) u2 v2 C ad c N base mid en b W hW hN (by rw[AJ,A5K];omega) EE EE EE EE s2 s4 (fun z hz=>HQM.out z (by simp only[Af,A4o] at hz;rcases hz with(h|h|h)|h|h|h<;>simp[h])) EE)
 have HFN:=AA (fun(W:World) (hW:RowT W base ad c N ((A++u1.merge v1 leT)++(u2.merge v2 leT++C)))=>(show RowT W base ad c N (A++(u.merge v leT++C)) by rw[HMG.out,AN];rw[AN] at hW;exact hW))
 clear h1 l1 l2 l3 l4 s1 s2 s3 s4 hme hsm HLN HSS HMID HSUM HQM HMG HR1' HIH
 go_wp2_with fail
 have HR3:=AA (HA2.out _ HR2.out)
 refine(HC2.out _ HR3.out).mono ?_
 rintro e w3 ⟨rfl,hr3,hg3⟩
 have HR4:=AA hr3
 have hgb:=A0M hgb hg3
 clear hr3 hg3
 go_wp2_with fail
 exact C2A
 ):P:=h
theorem C0G{P:Prop}(h:P:=by
 exact C2F
 ):P:=h
theorem C0I{P:Prop}(h:P:=by
 exact C2A
 ):P:=h
theorem C0Q{P:Prop}(h:P:=by
 have e:u2=[]:=AU EE
 have h9:=HR1'.out
 rw[e] at h9⊢
 exact h9
 ):P:=h
theorem C0R{P:Prop}(h:P:=by
 have e:v1=[]:=AU EE
 have h9:=HR1'.out
 rw[e] at h9⊢
 exact h9
 ):P:=h
theorem B9R{P:Prop}(h:P:=by
 rw[hW9]
 refine A8R (A8R (A8R (A8R (A0U _ _) _ _ ?_) _ _ ?_) _ _ ?_) _ _ ?_
 all_goals exact A0z _ _
 ):P:=h
theorem C1I{P:Prop}(h:P:=by
 go_wp2_with fail
 (try simp only[Exit.inBlock,Exit.then]);refine bodyPost_ret (results_none rfl _ _ _) rfl ?_
 exact⟨rfl,HR9.out,hgb⟩
 ):P:=h
theorem C1K{P:Prop}(h:P:=by
 have HQ1:=AA q1
 have HQ2:=AA q2
 clear q1 q2 hLH hE
 go_wp2_with fail
 go_meet
 exact⟨by rw[HQ1.out],by rw[HQ2.out],rfl⟩
 ):P:=h
theorem C2n{P:Prop}(h:P:=by
 have HA2:=AA (fun(W:World) (hW:RowT W base ad c N ((A++u1)++(v1++(u2++(v2++C)))))=>(show RowT W base ad c N (A++(u1++(v1++(u2++(v2++C))))) by rw[←AN];exact hW))
 have HC2:=AA (fun(W:World) (hW:RowT W base ad c N (A++(u1++(v1++(u2++(v2++C))))))=>HIH.out A u1 v1 (u2++(v2++C)) ad c N base a i mid W hW hN h1 EE EE EE EE s1 s3 (fun z hz=>HQM.out z (by simp only[Af] at hz;rcases hz with h|h|h|h|h|h<;>simp[h])) EE)
 have HA3:=AA (fun(W:World) (hW:RowT W base ad c N (A++(u1.merge v1 leT++(u2++(v2++C)))))=>(show RowT W base ad c N ((A++u1.merge v1 leT)++(u2++(v2++C))) by rw[AN];exact hW))
 have HC3:=AA (fun(W:World) (hW:RowT W base ad c N ((A++u1.merge v1 leT)++(u2++(v2++C))))=>(show RowT W base ad c N ((A++u1.merge v1 leT)++(u2.merge v2 leT++C)) by
  have e:v2=[]:=AU EE
  rw[e] at hW⊢
  rw[BG]
  exact hW))
 exact C2Q
 ):P:=h
theorem C2o{P:Prop}(h:P:=by
 have HA2:=AA (fun(W:World) (hW:RowT W base ad c N ((A++u1)++(v1++(u2++(v2++C)))))=>(show RowT W base ad c N (A++(u1++(v1++(u2++(v2++C))))) by rw[←AN];exact hW))
 have HC2:=AA (fun(W:World) (hW:RowT W base ad c N (A++(u1++(v1++(u2++(v2++C))))))=>HIH.out A u1 v1 (u2++(v2++C)) ad c N base a i mid W hW hN h1 EE EE EE EE s1 s3 (fun z hz=>HQM.out z (by simp only[Af] at hz;rcases hz with h|h|h|h|h|h<;>simp[h])) EE)
 have HA3:=AA (fun(W:World) (hW:RowT W base ad c N (A++(u1.merge v1 leT++(u2++(v2++C)))))=>(show RowT W base ad c N ((A++u1.merge v1 leT)++(u2++(v2++C))) by rw[AN];exact hW))
 have HC3:=AA (fun(W:World) (hW:RowT W base ad c N ((A++u1.merge v1 leT)++(u2++(v2++C))))=>(show RowT W base ad c N ((A++u1.merge v1 leT)++(u2.merge v2 leT++C)) by
  have e:u2=[]:=AU EE
  rw[e] at hW⊢
  rw[BN]
  exact hW))
 exact C2Q
 ):P:=h
theorem C2p{P:Prop}(h:P:=by
 have HA3:=AA (fun(W:World) (hW:RowT W base ad c N (A++(u1.merge v1 leT++(u2++(v2++C)))))=>(show RowT W base ad c N ((A++u1.merge v1 leT)++(u2++(v2++C))) by rw[AN];exact hW))
 have HC3:=AA (fun(W:World) (hW:RowT W base ad c N ((A++u1.merge v1 leT)++(u2++(v2++C))))=>(show RowT W base ad c N ((A++u1.merge v1 leT)++(u2.merge v2 leT++C)) by
  have e:v2=[]:=AU EE
  rw[e] at hW⊢
  rw[BG]
  exact hW))
 exact C0z
 ):P:=h
theorem C2q{P:Prop}(h:P:=by
 have HA3:=AA (fun(W:World) (hW:RowT W base ad c N (A++(u1.merge v1 leT++(u2++(v2++C)))))=>(show RowT W base ad c N ((A++u1.merge v1 leT)++(u2++(v2++C))) by rw[AN];exact hW))
 have HC3:=AA (fun(W:World) (hW:RowT W base ad c N ((A++u1.merge v1 leT)++(u2++(v2++C))))=>(show RowT W base ad c N ((A++u1.merge v1 leT)++(u2.merge v2 leT++C)) by
  have e:u2=[]:=AU EE
  rw[e] at hW⊢
  rw[BN]
  exact hW))
 exact C0z
 ):P:=h
theorem C2r{P:Prop}(h:P:=by
 have HFN:=AA (fun(W:World) (hW:RowT W base ad c N ((A++u1.merge v1 leT)++(u2.merge v2 leT++C)))=>(show RowT W base ad c N (A++(u.merge v leT++C)) by rw[HMG.out,AN];rw[AN] at hW;exact hW))
 clear h1 l1 l2 l3 l4 s1 s2 s3 s4 hme hsm HLN HSS HMID HSUM HQM HMG HR1' HIH
 go_wp2_with fail
 refine HC1.out.mono ?_
 rintro e w2 ⟨rfl,hr2,hg2⟩
 have HR2:=AA hr2
 have hgb:=A0M hgb hg2
 clear hr2 hg2
 exact C0D
 ):P:=h
theorem C2s{P:Prop}(h:P:=by
 have HA3:=AA (fun(W:World) (hW:RowT W base ad c N (A++(u1.merge v1 leT++(u2++(v2++C)))))=>(show RowT W base ad c N ((A++u1.merge v1 leT)++(u2++(v2++C))) by rw[AN];exact hW))
 have HC3:=AA (fun(W:World) (hW:RowT W base ad c N ((A++u1.merge v1 leT)++(u2++(v2++C))))=>HIH.out (A++u1.merge v1 leT) u2 v2 C ad c N base mid en b W hW hN (by rw[AJ,A5K];omega) EE EE EE EE s2 s4 (fun z hz=>HQM.out z (by simp only[Af,A4o] at hz;rcases hz with(h|h|h)|h|h|h<;>simp[h])) EE)
 have HFN:=AA (fun(W:World) (hW:RowT W base ad c N ((A++u1.merge v1 leT)++(u2.merge v2 leT++C)))=>(show RowT W base ad c N (A++(u.merge v leT++C)) by rw[HMG.out,AN];rw[AN] at hW;exact hW))
 clear h1 l1 l2 l3 l4 s1 s2 s3 s4 hme hsm HLN HSS HMID HSUM HQM HMG HR1' HIH
 go_wp2_with fail
 refine HC1.out.mono ?_
 rintro e w2 ⟨rfl,hr2,hg2⟩
 have HR2:=AA hr2
 have hgb:=A0M hgb hg2
 clear hr2 hg2
 go_wp2_with fail
 have HR3:=AA (HA2.out _ HR2.out)
 have HR4:=AA (HC2.out _ HR3.out)
 exact C0I
 ):P:=h
theorem C2t{P:Prop}(h:P:=by
 exact C2Y
 ):P:=h
theorem C2w{P:Prop}(h:P:=by
 have HA2:=AA (fun(W:World) (hW:RowT W base ad c N ((A++u1)++(v1++(u2++(v2++C)))))=>(show RowT W base ad c N (A++(u1++(v1++(u2++(v2++C))))) by rw[←AN];exact hW))
 have HC2:=AA (fun(W:World) (hW:RowT W base ad c N (A++(u1++(v1++(u2++(v2++C))))))=>(show RowT W base ad c N (A++(u1.merge v1 leT++(u2++(v2++C)))) by
  have e:v1=[]:=AU EE
  rw[e] at hW⊢
  rw[BG]
  exact hW))
 exact C0y
 ):P:=h
theorem C2x{P:Prop}(h:P:=by
 have HA2:=AA (fun(W:World) (hW:RowT W base ad c N ((A++u1)++(v1++(u2++(v2++C)))))=>(show RowT W base ad c N (A++(u1++(v1++(u2++(v2++C))))) by rw[←AN];exact hW))
 have HC2:=AA (fun(W:World) (hW:RowT W base ad c N (A++(u1++(v1++(u2++(v2++C))))))=>(show RowT W base ad c N (A++(u1.merge v1 leT++(u2++(v2++C)))) by
  have e:u1=[]:=AU EE
  rw[e] at hW⊢
  rw[BN]
  exact hW))
 exact C0y
 ):P:=h
theorem C2A{P:Prop}(h:P:=by
 have HR5:=AA (HA3.out _ HR4.out)
 refine(HC3.out _ HR5.out).mono ?_
 rintro e w4 ⟨rfl,hr4,hg4⟩
 have HR6:=AA hr4
 have hgb:=A0M hgb hg4
 clear hr4 hg4
 go_wp2_with fail
 go_end0
 exact⟨rfl,HFN.out _ HR6.out,hgb⟩
 ):P:=h
theorem C2F{P:Prop}(h:P:=by
 have HR5:=AA (HA3.out _ HR4.out)
 have HR6:=AA (HC3.out _ HR5.out)
 go_end0
 exact⟨rfl,HFN.out _ HR6.out,hgb⟩
 ):P:=h
theorem C2P{P:Prop}(h:P:=by
 have HA3:=AA (fun(W:World) (hW:RowT W base ad c N (A++(u1.merge v1 leT++(u2++(v2++C)))))=>(show RowT W base ad c N ((A++u1.merge v1 leT)++(u2++(v2++C))) by rw[AN];exact hW))
 have HC3:=AA (fun(W:World) (hW:RowT W base ad c N ((A++u1.merge v1 leT)++(u2++(v2++C))))=>(show RowT W base ad c N ((A++u1.merge v1 leT)++(u2.merge v2 leT++C)) by
  have e:v2=[]:=AU EE
  rw[e] at hW⊢
  rw[BG]
  exact hW))
 exact C2r
 ):P:=h
theorem C2Q{P:Prop}(h:P:=by
 have HFN:=AA (fun(W:World) (hW:RowT W base ad c N ((A++u1.merge v1 leT)++(u2.merge v2 leT++C)))=>(show RowT W base ad c N (A++(u.merge v leT++C)) by rw[HMG.out,AN];rw[AN] at hW;exact hW))
 clear h1 l1 l2 l3 l4 s1 s2 s3 s4 hme hsm HLN HSS HMID HSUM HQM HMG HR1' HIH
 exact C2Y
 ):P:=h
theorem C2R{P:Prop}(h:P:=by
 have HA3:=AA (fun(W:World) (hW:RowT W base ad c N (A++(u1.merge v1 leT++(u2++(v2++C)))))=>(show RowT W base ad c N ((A++u1.merge v1 leT)++(u2++(v2++C))) by rw[AN];exact hW))
 have HC3:=AA (fun(W:World) (hW:RowT W base ad c N ((A++u1.merge v1 leT)++(u2++(v2++C))))=>(show RowT W base ad c N ((A++u1.merge v1 leT)++(u2.merge v2 leT++C)) by
  have e:u2=[]:=AU EE
  rw[e] at hW⊢
  rw[BN]
  exact hW))
 exact C2r
 ):P:=h
theorem C2S{P:Prop}(h:P:=by
 have HA2:=AA (fun(W:World) (hW:RowT W base ad c N ((A++u1)++(v1++(u2++(v2++C)))))=>(show RowT W base ad c N (A++(u1++(v1++(u2++(v2++C))))) by rw[←AN];exact hW))
 have HC2:=AA (fun(W:World) (hW:RowT W base ad c N (A++(u1++(v1++(u2++(v2++C))))))=>(show RowT W base ad c N (A++(u1.merge v1 leT++(u2++(v2++C)))) by
  have e:v1=[]:=AU EE
  rw[e] at hW⊢
  rw[BG]
  exact hW))
 exact C2p
 ):P:=h
theorem C2T{P:Prop}(h:P:=by
 have HA2:=AA (fun(W:World) (hW:RowT W base ad c N ((A++u1)++(v1++(u2++(v2++C)))))=>(show RowT W base ad c N (A++(u1++(v1++(u2++(v2++C))))) by rw[←AN];exact hW))
 have HC2:=AA (fun(W:World) (hW:RowT W base ad c N (A++(u1++(v1++(u2++(v2++C))))))=>(show RowT W base ad c N (A++(u1.merge v1 leT++(u2++(v2++C)))) by
  have e:v1=[]:=AU EE
  rw[e] at hW⊢
  rw[BG]
  exact hW))
 exact C2q
 ):P:=h
theorem C2U{P:Prop}(h:P:=by
 have HA2:=AA (fun(W:World) (hW:RowT W base ad c N ((A++u1)++(v1++(u2++(v2++C)))))=>(show RowT W base ad c N (A++(u1++(v1++(u2++(v2++C))))) by rw[←AN];exact hW))
 have HC2:=AA (fun(W:World) (hW:RowT W base ad c N (A++(u1++(v1++(u2++(v2++C))))))=>(show RowT W base ad c N (A++(u1.merge v1 leT++(u2++(v2++C)))) by
  have e:u1=[]:=AU EE
  rw[e] at hW⊢
  rw[BN]
  exact hW))
 exact C2p
 ):P:=h
theorem C2V{P:Prop}(h:P:=by
 have HA2:=AA (fun(W:World) (hW:RowT W base ad c N ((A++u1)++(v1++(u2++(v2++C)))))=>(show RowT W base ad c N (A++(u1++(v1++(u2++(v2++C))))) by rw[←AN];exact hW))
 have HC2:=AA (fun(W:World) (hW:RowT W base ad c N (A++(u1++(v1++(u2++(v2++C))))))=>(show RowT W base ad c N (A++(u1.merge v1 leT++(u2++(v2++C)))) by
  have e:u1=[]:=AU EE
  rw[e] at hW⊢
  rw[BN]
  exact hW))
 exact C2q
 ):P:=h
theorem C2W{P:Prop}(h:P:=by
 have HFN:=AA (fun(W:World) (hW:RowT W base ad c N ((A++u1.merge v1 leT)++(u2.merge v2 leT++C)))=>(show RowT W base ad c N (A++(u.merge v leT++C)) by rw[HMG.out,AN];rw[AN] at hW;exact hW))
 clear h1 l1 l2 l3 l4 s1 s2 s3 s4 hme hsm HLN HSS HMID HSUM HQM HMG HR1' HIH
 go_wp2_with fail
 refine HC1.out.mono ?_
 rintro e w2 ⟨rfl,hr2,hg2⟩
 have HR2:=AA hr2
 have hgb:=A0M hgb hg2
 clear hr2 hg2
 exact C2t
 ):P:=h
theorem C2X{P:Prop}(h:P:=by
 go_wp2_with fail
 have HR3:=AA (HA2.out _ HR2.out)
 have HR4:=AA (HC2.out _ HR3.out)
 exact C2F
 ):P:=h
theorem C2Y{P:Prop}(h:P:=by
 go_wp2_with fail
 have HR3:=AA (HA2.out _ HR2.out)
 refine(HC2.out _ HR3.out).mono ?_
 rintro e w3 ⟨rfl,hr3,hg3⟩
 have HR4:=AA hr3
 have hgb:=A0M hgb hg3
 clear hr3 hg3
 go_wp2_with fail
 exact C0G
 ):P:=h
structure Tn where
 text:List UInt8
 at_:Int
def Tn.cells(x:Tn):List Value:=[.string (S x.text),.int .i64 x.at_]
def A2c(l:List Tn):List Value:=l.flatMap Tn.cells
inductive STree
 |nil
 |op (i:Nat) (b:Bool) (t:STree)
 |fork (i j:Nat) (ti tj:STree)
inductive OTree
 |nil
 |op (b:Bool) (o:Oper) (t:OTree)
 |fork (oi oj:Oper) (ti tj:OTree)
section
variable {P:Program} {ops:Array Oper} {Q:Exit→Act→World→Prop} {S:World→Prop} {z:Nat} {zt:List Nat}
def ancB(ops:Array Oper):Nat→Nat→Nat→Bool
 |0,_,_=>false
 |f+1,i,j=>match ops[i]? with
  |some o=>o.after.any fun e=>Region.binds .any e&&(e.on==j||ancB ops f e.on j)
  |none=>false
theorem A8U{listed:Array Bool}(hcl:RgClosed ops listed):∀(f i j:Nat),listed.getD i false=true→ancB ops f i j=true→listed.getD j false=true
 |0,_,_,_,h=>by cases h
 |f+1,i,j,hi,h=>by
  unfold ancB at h
  cases ho:ops[i]? with
  |none=>rw[ho] at h;cases h
  |some o=>
   rw[ho] at h
   simp only[Df] at h
   obtain⟨q,hq,h2⟩:=h
   simp only[Ai,CB,At] at h2
   have h3:=hcl i o hi ho _ (Cy hq) h2.1
   rcases h2.2 with h4|h4
   ·rw[←h4];exact h3
   ·exact A8U hcl f _ j h3 h4
def B4K(ops:Array Oper)(z:Nat)(zt:List Nat):Bool:=(List.range ops.size).all fun i=>i==z||zt.contains i||ancB ops 1 z i||ancB ops 8 z i
def A7G(P:Program)(ops:Array Oper)(Q:Exit→Act→World→Prop):List Nat→Array Bool→Act→World→Prop
 |[],listed,a,w=>Region.ready .any ops listed=[]∧Q .normal a w
 |z::zs,listed,a,w=>Region.ready .any ops listed=[z]∧wpOp P ops Q z (fun a' w'=>A7G P ops Q zs (listed.setIfInBounds z true) a' w') a w
theorem A6k:∀(zs:List Nat) (listed:Array Bool) (a:Act) (w:World),A7G P ops Q zs listed a w→wpAny P .any ops Q zs.length listed a w
 |[],listed,a,w,h=>h
 |z::zs,listed,a,w,h=>by
  obtain⟨h1,h2⟩:=h
  refine⟨fun h=>(by rw[h1] at h;cases h),fun i hi=> ?_⟩
  rw[h1] at hi
  obtain rfl:i=z:=by simpa using hi
  exact wpOp_mono (fun a' w' h'=>A6k zs _ a' w' h') h2
def A7m(P:Program)(ops:Array Oper)(Q:Exit→Act→World→Prop)(S:World→Prop)(z:Nat)(zt:List Nat):Nat→Array Bool→Act→World→Prop
 |0,listed,a,w=>A7G P ops Q (z::zt) listed a w
 |fuel+1,listed,a,w=>Region.ready .any ops listed≠ []∧∀i∈Region.ready .any ops listed,wpOp P ops Q i (fun a' w'=>S w'∧A7m P ops Q S z zt fuel (listed.setIfInBounds i true) a' w') a w
theorem A8V:∀(fuel:Nat) (listed:Array Bool) (a:Act) (w:World),A7m P ops Q S z zt fuel listed a w→wpAny P .any ops Q (fuel+(zt.length+1)) listed a w
 |0,listed,a,w,h=>by
  have:=A6k (z::zt) listed a w h
  rw[AM] at this
  rw[An];exact this
 |fuel+1,listed,a,w,h=>by
  have e:fuel+1+(zt.length+1)=(fuel+(zt.length+1))+1:=EE
  rw[e]
  exact⟨fun h0=>absurd h0 h.1,fun i hi=>wpOp_mono (fun a' w' h'=>A8V fuel _ a' w' h'.2) (h.2 i hi)⟩
theorem A7n{i:Nat}{oi:Oper}{v:Value}(hl:B4K ops z zt=true)(hi:ops[i]? =some oi)(hiz:i≠z)(hizt:zt.contains i=false)(hsel:∀(j:Nat) (o:Oper) cs b,ops[j]? =some o→o.op≠.select cs b)(hQ:∀c a w,Q (.panic c) (a.put oi.dst v) w→Q (.panic c) a w):
 ∀(fuel:Nat) (listed:Array Bool) (a:Act) (w:World),RgClosed ops listed→
  (∀j oj,ops[j]? =some oj→j≠i→listed.getD j true=false→(∀e∈oj.after,Region.binds .any e=true→e.on≠i)→oi.apart ops oj=true)→
  i∈Region.ready .any ops listed→YieldsIf P ops S oi v a→S w→
  A7m P ops Q S z zt fuel (listed.setIfInBounds i true) (a.put oi.dst v) w→A7m P ops Q S z zt (fuel+1) listed a w:=by
 have hun:∀(listed:Array Bool),i∈Region.ready .any ops listed→listed.getD i false=true→False:=by
  exact B9V
 have hno:∀(listed:Array Bool) (j:Nat),j∈Region.ready .any ops listed→i∈Region.ready .any ops listed→j≠i→∀oj,ops[j]? =some oj→∀e∈oj.after,Region.binds .any e=true→e.on≠i:=by
  exact B9X
 intro fuel
 induction fuel with
 |zero=>
  intro listed a w hcl _ hr hy hS H
  refine⟨fun h=>(by rw[h] at hr;cases hr),fun j hj=> ?_⟩
  by_cases hji:j=i
  ·subst hji;exact hy.wpOp hi hS ⟨hS,H⟩
  ·exfalso
   have hm:=ready_mono hj hji
   rw[H.1] at hm
   obtain rfl:j=z:=by simpa using hm
   have hli:i<ops.size:=(Ay.1 hi).1
   have h1:=CP.1 hl i (Bc.2 hli)
   simp only[CB,At] at h1
   have key:∀f,ancB ops (f+1) j i=true→False:=fun f h1=>by
    unfold ancB at h1
    obtain⟨_,oj',hoj',hall⟩:=Cb.1 hj
    rw[hoj'] at h1
    simp only[Df] at h1
    obtain⟨q,hq,h2⟩:=h1
    simp only[Ai,CB,At] at h2
    have h3:=hall _ (Cy hq) h2.1
    rcases h2.2 with h4|h4
    ·rw[h4] at h3;exact hun listed hr h3
    ·exact hun listed hr (A8U hcl _ _ _ h3 h4)
   rcases h1 with((h1|h1)|h1)|h1
   ·exact hiz h1
   ·rw[hizt] at h1;cases h1
   ·exact key 0 h1
   ·exact key 7 h1
 |succ fuel ih=>
  intro listed a w hcl hfree hr hy hS H
  refine⟨fun h=>(by rw[h] at hr;cases hr),fun j hj=> ?_⟩
  by_cases hji:j=i
  ·subst hji;exact hy.wpOp hi hS ⟨hS,H⟩
  ·exact B9Q
def A4L(P:Program)(ops:Array Oper)(Q:Exit→Act→World→Prop):List Oper→Act→World→Prop
 |[],a,w=>Q .normal a w
 |o::r,a,w=>wpList P ops (A2q (fun _=>True) (fun a' w'=>A4L P ops Q r a' w') Q) [o] a w
def A2I(ops:Array Oper):List Nat→List Oper
 |[]=> []
 |i::r=>match ops[i]? with
  |some o=>o::A2I ops r
  |none=>A2I ops r
def Qt(P:Program)(ops:Array Oper)(Q:Exit→Act→World→Prop)(zs:List Oper):Exit→Act→World→Prop
 | .normal,a,w=>A4L P ops Q zs a w
 | .exit id,a,w=>Q (.exit id) a w
 | .goto l,a,w=>Q (.goto l) a w
 | .ret,a,w=>Q .ret a w
 | .panic c,a,w=>Q (.panic c) a w
 | .outgrown,a,w=>Q .outgrown a w
def A4M(ops:Array Oper):List Nat→Array Bool→Bool
 |[],listed=>(Region.ready .any ops listed).isEmpty
 |z::zs,listed=>(Region.ready .any ops listed==[z])&&A4M ops zs (listed.setIfInBounds z true)
theorem A8W:∀(zs:List Nat) (listed:Array Bool) (a:Act) (w:World),A4M ops zs listed=true→A4L P ops Q (A2I ops zs) a w→A7G P ops Q zs listed a w
 |[],listed,a,w,hB,h=>by
  simp only[A4M,Dm] at hB
  exact⟨hB,h⟩
 |z::zs,listed,a,w,hB,h=>by
  simp only[A4M,Ai,At] at hB
  obtain⟨h1,h2⟩:=hB
  refine⟨h1, ?_⟩
  have hm:z∈Region.ready .any ops listed:=by rw[h1];simp
  obtain⟨_,o,ho,_⟩:=Cb.1 hm
  simp only[A2I,ho] at h
  unfold A4L at h
  exact A2X ho h (fun a w hh=>A8W zs _ a w h2 hh.2) (fun _ _ _ h=>h) (fun⟨a,w,hh⟩=>⟨a,w,hh⟩)
def A2y(ops:Array Oper)(z:Nat)(zt:List Nat):Nat→STree→Array Bool→Bool
 |0,.nil,listed=>A4M ops (z::zt) listed
 |n+1,.op i true t,listed=>(i !=z)&& !zt.contains i&&(Region.ready .any ops listed).contains i&&Region.free .any ops listed i&&(match ops[i]? with|some o=>A3l o|none=>false)&&A2y ops z zt n t (listed.setIfInBounds i true)
 |n+1,.op i false t,listed=>(Region.ready .any ops listed==[i])&&A2y ops z zt n t (listed.setIfInBounds i true)
 |n+1,.fork i j ti tj,listed=>(Region.ready .any ops listed==[i,j])&&A2y ops z zt n ti (listed.setIfInBounds i true)&&A2y ops z zt n tj (listed.setIfInBounds j true)
 |_,_,_=>false
def A1L(ops:Array Oper):STree→OTree
 | .nil=> .nil
 | .op i b t=>match ops[i]? with
  |some o=> .op b o (A1L ops t)
  |none=> .nil
 | .fork i j ti tj=>match ops[i]?,ops[j]? with
  |some oi,some oj=> .fork oi oj (A1L ops ti) (A1L ops tj)
  |_,_=> .nil
def wpT(P:Program)(ops:Array Oper)(C:World→Prop)(Q:Exit→Act→World→Prop):OTree→Act→World→Prop
 | .nil,a,w=>Shut (Q .normal a w)
 | .op true o t,a,w=>Shut (if Region.wanted o (yielded ops a.tmps) then o.quiet P a C (fun a'=>wpT P ops C Q t a' w) else wpT P ops C Q t (a.put o.dst undef) w)
 | .op false o t,a,w=>Shut (wpList P ops (A2q C (fun a' w'=>wpT P ops C Q t a' w') Q) [o] a w)
 | .fork oi oj ti tj,a,w=>Shut (wpList P ops (A2q C (fun a' w'=>wpT P ops C Q ti a' w') Q) [oi] a w∧wpList P ops (A2q C (fun a' w'=>wpT P ops C Q tj a' w') Q) [oj] a w)
theorem A2Z(hl:B4K ops z zt=true)(hs:Region.noSelect ops=true)(hQ:∀c a (d:Tmp) v w,Q (.panic c) (Act.put a (some d) v) w→Q (.panic c) a w):
 ∀(n:Nat) (σ:STree) (listed:Array Bool) (a:Act) (w:World),RgClosed ops listed→A2y ops z zt n σ listed=true→S w→wpT P ops S (Qt P ops Q (A2I ops (z::zt))) (A1L ops σ) a w→A7m P ops Q S z zt n listed a w
 |0,.nil,listed,a,w,_,hB,_,h=>A8W (z::zt) listed a w hB h.out
 |0,.op ..,_,_,_,_,hB,_,_=>by simp[A2y] at hB
 |0,.fork ..,_,_,_,_,hB,_,_=>by simp[A2y] at hB
 |_+1,.nil,_,_,_,_,hB,_,_=>by simp[A2y] at hB
 |n+1,.op i true t,listed,a,w,hcl,hB,hC,h=>by
  simp only[A2y,Ai,Be,Db] at hB
  obtain⟨⟨⟨⟨⟨hne,hnt⟩,hr⟩,hf⟩,hk⟩,hB'⟩:=hB
  cases hi:ops[i]? with
  |none=>rw[hi] at hk;simp at hk
  |some o=>
   rw[hi] at hk
   simp only[A1L,hi] at h
   unfold wpT at h
   replace h:=h.out
   by_cases hw:Region.wanted o (yielded ops a.tmps)=true
   ·rw[if_pos hw] at h
    obtain⟨v,h1,h2⟩:=h
    exact A7n hl hi hne hnt (DF hs) (fun c a w hh=>A7w hQ c a _ _ w hh) _ _ _ _ hcl (Dn hi hf) (by simpa using hr) (A3G hk hw h1) hC (A2Z hl hs hQ n t _ _ _ (hcl.set_ (by simpa using hr)) hB' hC h2)
   ·rw[if_neg hw] at h
    exact A7n hl hi hne hnt (DF hs) (fun c a w hh=>A7w hQ c a _ _ w hh) _ _ _ _ hcl (Dn hi hf) (by simpa using hr) (.inr ⟨by simpa using hw,rfl⟩) hC (A2Z hl hs hQ n t _ _ _ (hcl.set_ (by simpa using hr)) hB' hC h)
 |n+1,.op i false t,listed,a,w,hcl,hB,hC,h=>by
  simp only[A2y,Ai,At] at hB
  obtain⟨hr,hB'⟩:=hB
  refine⟨by rw[hr];simp,fun j hj=> ?_⟩
  have hj0:=hj
  rw[hr] at hj
  obtain rfl:j=i:=by simpa using hj
  obtain⟨_,o,hi,_⟩:=Cb.1 hj0
  simp only[A1L,hi] at h
  unfold wpT at h
  replace h:=h.out
  exact A2X hi h (fun a w hh=>⟨hh.1,A2Z hl hs hQ n t _ _ _ (hcl.set_ hj0) hB' hh.1 hh.2⟩) (fun _ _ _ h=>h) (fun⟨a,w,hh⟩=>⟨a,w,hh⟩)
 |n+1,.fork i j ti tj,listed,a,w,hcl,hB,hC,h=>by
  simp only[A2y,Ai,At] at hB
  obtain⟨⟨hr,hBi⟩,hBj⟩:=hB
  have hmi:i∈Region.ready .any ops listed:=by rw[hr];simp
  have hmj:j∈Region.ready .any ops listed:=by rw[hr];simp
  obtain⟨_,oi,hi,_⟩:=Cb.1 hmi
  obtain⟨_,oj,hj,_⟩:=Cb.1 hmj
  simp only[A1L,hi,hj] at h
  unfold wpT at h
  replace h:=h.out
  refine⟨by rw[hr];simp,fun q hq=> ?_⟩
  rw[hr] at hq
  simp only[Br,Dl,or_false] at hq
  rcases hq with rfl|rfl
  ·exact A2X hi h.1 (fun a w hh=>⟨hh.1,A2Z hl hs hQ n ti _ _ _ (hcl.set_ hmi) hBi hh.1 hh.2⟩) (fun _ _ _ h=>h) (fun⟨a,w,hh⟩=>⟨a,w,hh⟩)
  ·exact A2X hj h.2 (fun a w hh=>⟨hh.1,A2Z hl hs hQ n tj _ _ _ (hcl.set_ hmj) hBj hh.1 hh.2⟩) (fun _ _ _ h=>h) (fun⟨a,w,hh⟩=>⟨a,w,hh⟩)
def A2J(n:Nat)(dn:List Nat):Array Bool:=((List.range n).map fun j=>dn.contains j).toArray
theorem A8X(n:Nat)(dn:List Nat):(A2J n dn).size=n:=by simp[A2J]
theorem A5g(n:Nat)(dn:List Nat)(j:Nat)(d:Bool):(A2J n dn).getD j d=if j<n then dn.contains j else d:=by
 unfold A2J
 by_cases h:j<n
 ·rw[if_pos h];simp[h]
 ·rw[if_neg h];simp[h]
theorem B6A(n:Nat):Array.replicate n false=A2J n []:=by
 unfold A2J
 apply Array.ext
 ·simp
 ·intro i h1 h2;simp
theorem B0y{n:Nat}(dn:List Nat){j:Nat}(h:j<(A2J n dn).size):(A2J n dn)[j]=dn.contains j:=by
 simp[A2J]
theorem A4N{n:Nat}(dn:List Nat){i:Nat}(_hi:i<n):(A2J n dn).setIfInBounds i true=A2J n (i::dn):=by
 apply Array.ext
 ·rw[Array.size_setIfInBounds,A8X,A8X]
 ·intro j h1 h2
  have h3:j<(A2J n dn).size:=by rw[Array.size_setIfInBounds] at h1;exact h1
  rw[Array.getElem_setIfInBounds h3,B0y,B0y,List.contains_cons]
  by_cases e:i=j
  ·subst e;simp
  ·rw[if_neg e]
   have:(j==i)=false:=by rw[AH];exact Ne.symm e
   rw[this,Bool.false_or]
def A4O(ops:Array Oper)(dn:List Nat):List Nat:=
 (List.range ops.size).filter fun i=> !dn.contains i&&((ops[i]?).map (·.after.all fun e=> !Region.binds .any e||(decide (e.on<ops.size)&&dn.contains e.on))).getD false
theorem A4P(ops:Array Oper)(dn:List Nat):Region.ready .any ops (A2J ops.size dn)=A4O ops dn:=by
 unfold Region.ready A4O
 apply List.filter_congr
 intro i hi
 rw[Bc] at hi
 rw[A5g,if_pos hi]
 have hf:(fun(e:_)=> !Region.binds .any e||(A2J ops.size dn).getD e.on false)=fun e=> !Region.binds .any e||(decide (e.on<ops.size)&&dn.contains e.on):=by
  funext e
  rw[A5g]
  by_cases h:e.on<ops.size
  ·rw[if_pos h];simp[h]
  ·rw[if_neg h];simp[h]
 rw[hf]
def B4L(ops:Array Oper)(dn:List Nat)(i:Nat):Bool:=
 match ops[i]? with
 |none=>false
 |some oi=>(List.range ops.size).all fun j=>j==i||dn.contains j||match ops[j]? with
  |some oj=>oj.after.any (fun e=>Region.binds .any e&&e.on==i)||oi.apart ops oj
  |none=>true
theorem B8m(ops:Array Oper)(dn:List Nat)(i:Nat):Region.free .any ops (A2J ops.size dn) i=B4L ops dn i:=by
 unfold Region.free B4L
 cases ops[i]? with
 |none=>rfl
 |some oi=>
  simp only
  rw[BR,CP,CP]
  constructor
  ·intro h j hj
   have h1:=h j hj
   rw[Bc] at hj
   rw[A5g,if_pos hj] at h1
   exact h1
  ·intro h j hj
   have h1:=h j hj
   rw[Bc] at hj
   rw[A5g,if_pos hj]
   exact h1
theorem A5x{dn:List Nat}{i:Nat}(h:i∈A4O ops dn):i<ops.size:=Bc.1 (List.mem_filter.1 h).1
def A8Y(ops:Array Oper):List Nat→List Nat→Bool
 |[],dn=>(A4O ops dn).isEmpty
 |z::zs,dn=>(A4O ops dn==[z])&&A8Y ops zs (z::dn)
theorem B2p:∀(zs:List Nat) (dn:List Nat),A8Y ops zs dn=true→A4M ops zs (A2J ops.size dn)=true
 |[],dn,h=>by unfold A4M;rw[A4P];exact h
 |z::zs,dn,h=>by
  unfold A4M;rw[A4P]
  simp only[A8Y,Ai,At] at h⊢
  have hz:z<ops.size:=A5x (dn:=dn) (by rw[h.1];simp)
  exact⟨h.1,by rw[A4N _ hz];exact B2p zs _ h.2⟩
def A3g(ops:Array Oper)(z:Nat)(zt:List Nat):Nat→STree→List Nat→Bool
 |0,.nil,dn=>A8Y ops (z::zt) dn
 |n+1,.op i true t,dn=>(i !=z)&& !zt.contains i&&(A4O ops dn).contains i&&B4L ops dn i&&(match ops[i]? with|some o=>A3l o|none=>false)&&A3g ops z zt n t (i::dn)
 |n+1,.op i false t,dn=>(A4O ops dn==[i])&&A3g ops z zt n t (i::dn)
 |n+1,.fork i j ti tj,dn=>(A4O ops dn==[i,j])&&A3g ops z zt n ti (i::dn)&&A3g ops z zt n tj (j::dn)
 |_,_,_=>false
theorem A5y:∀(n:Nat) (σ:STree) (dn:List Nat),A3g ops z zt n σ dn=true→A2y ops z zt n σ (A2J ops.size dn)=true
 |0,.nil,dn,h=>B2p _ _ h
 |0,.op ..,_,h=>by simp[A3g] at h
 |0,.fork ..,_,h=>by simp[A3g] at h
 |_+1,.nil,_,h=>by simp[A3g] at h
 |n+1,.op i true t,dn,h=>by
  simp only[A3g,Ai] at h
  obtain⟨⟨⟨⟨⟨h1,h2⟩,h3⟩,h4⟩,h5⟩,h6⟩:=h
  have hi:i<ops.size:=A5x (dn:=dn) (by simpa using h3)
  simp only[A2y,A4P,B8m,A4N _ hi,Ai]
  exact⟨⟨⟨⟨⟨h1,h2⟩,h3⟩,h4⟩,h5⟩,A5y n t _ h6⟩
 |n+1,.op i false t,dn,h=>by
  simp only[A3g,Ai,At] at h
  have hi:i<ops.size:=A5x (dn:=dn) (by rw[h.1];simp)
  simp only[A2y,A4P,A4N _ hi,Ai,At]
  exact⟨h.1,A5y n t _ h.2⟩
 |n+1,.fork i j ti tj,dn,h=>by
  simp only[A3g,Ai,At] at h
  have hi:i<ops.size:=A5x (dn:=dn) (by rw[h.1.1];simp)
  have hj:j<ops.size:=A5x (dn:=dn) (by rw[h.1.1];simp)
  simp only[A2y,A4P,A4N _ hi,A4N _ hj,Ai,At]
  exact⟨⟨h.1.1,A5y n ti _ h.1.2⟩,A5y n tj _ h.2⟩
theorem A3e{id:Nat}{a:Act}{w:World}(σ:STree)(n z:Nat)(zt:List Nat)(F:World→Prop)(hm:P.follows .mixedOrders=true)(hs:Region.noSelect ops=true)(hl:B4K ops z zt=true)(hlen:n+(zt.length+1)=ops.size)(hQ:∀c a (d:Tmp) v w,Q (.panic c) (Act.put a (some d) v) w→Q (.panic c) a w)(hB:A3g ops z zt n σ []=true)(hF:F w)(hd:F w→F w.drew)(h:Nonempty (Wof F)→wpT P ops (fun w'=>∃p:Wof F,w'=p.w) (Qt P ops Q (A2I ops (z::zt))) (A1L ops σ) a w.drew):(Code.region id ops true).wp P Q a w:=by
 refine wp_region_any hm ?_
 rw[←hlen]
 exact A8V n _ a _ (A2Z hl hs hQ n σ _ a _ (RgClosed.start _ _) (by rw[hlen,B6A];exact A5y _ _ _ hB) ⟨⟨_,hd hF⟩,rfl⟩ (h ⟨⟨_,hF⟩⟩))
theorem EC{id:Nat}{a:Act}{w:World}(σ:STree)(n z:Nat)(zt:List Nat){F f:World→Prop}(HF:Hid (F=f))(h:Nonempty (Wof F)→wpT P ops (fun w'=>∃p:Wof F,w'=p.w) (Qt P ops Q (A2I ops (z::zt))) (A1L ops σ) a w.drew)(hm:P.follows .mixedOrders=true:=by kernel_rfl)(hs:Region.noSelect ops=true:=by kernel_rfl)(hl:B4K ops z zt=true:=by kernel_rfl)(hlen:n+(zt.length+1)=ops.size:=by exact rfl)(hQ:∀c a (d:Tmp) v w,Q (.panic c) (Act.put a (some d) v) w→Q (.panic c) a w:=by exact fun _ _ _ _ _ h=>h)(hB:A3g ops z zt n σ []=true:=by kernel_rfl)(hF:f w:=by first|((repeat' apply And.intro)<;>assumption)|trivial|(simp;done)|(simp[*];done))(hd:f w→f w.drew:=by exact fun h=>h):(Code.region id ops true).wp P Q a w:=A3e σ n z zt F hm hs hl hlen hQ hB (by rw[HF];exact hF) (by rw[HF];exact hd) h
theorem A2r{C:World→Prop}{a:Act}{w:World}{zs:List Oper}(h:A4L P ops Q zs a w):wpT P ops C (Qt P ops Q zs) .nil a w:=⟨h⟩
theorem A0Y{a:Act}{w:World}{o:Oper}{r:List Oper}(h:wpList P ops (A2q (fun _=>True) (fun a' w'=>A4L P ops Q r a' w') Q) [o] a w):A4L P ops Q (o::r) a w:=h
theorem A1z{a:Act}{w:World}(h:Q .normal a w):A4L P ops Q [] a w:=h
theorem A1n{K:Act→World→Prop}{a:Act}{w:World}(h:K a w):A2q (fun _=>True) K Q .normal a w:=⟨trivial,h⟩
theorem B2q{C:World→Prop}{a:Act}{w:World}{o:Oper}{t:OTree}(hw:Region.wanted o (yielded ops a.tmps)=true)(h:∀K:Act→Prop,(∀a,wpT P ops C Q t a w→K a)→o.quiet P a C K):wpT P ops C Q (.op true o t) a w:=by
 unfold wpT
 refine⟨?_⟩
 rw[if_pos hw]
 exact h _ (fun _ h=>h)
theorem B2r{C:World→Prop}{a:Act}{w:World}{o:Oper}{t:OTree}(hw:Region.wanted o (yielded ops a.tmps)=false)(h:wpT P ops C Q t (a.put o.dst undef) w):wpT P ops C Q (.op true o t) a w:=by
 unfold wpT
 refine⟨?_⟩
 rw[if_neg (by rw[hw];simp)]
 exact h
theorem wpT_free{C:World→Prop}{a:Act}{w:World}{o:Oper}{t:OTree}(hg:o.guard=none)(h:∀K:Act→Prop,(∀a,wpT P ops C Q t a w→K a)→o.quiet P a C K):wpT P ops C Q (.op true o t) a w:=B2q (A7N hg) h
theorem wpT_wantS{C:World→Prop}{a:Act}{w:World}{o:Oper}{t:OTree}{j:Nat}{b:Bool}(d:Tmp)(hg:o.guard=some (j,b))(hd:(ops[j]?).bind (·.dst)=some d)(hv:a.tmps[d]? =some (.bool b))(h:∀K:Act→Prop,(∀a,wpT P ops C Q t a w→K a)→o.quiet P a C K):wpT P ops C Q (.op true o t) a w:=B2q ((A3i d hg hd hv).trans (by simp[A6a])) h
theorem wpT_skipS{C:World→Prop}{a:Act}{w:World}{o:Oper}{t:OTree}{j:Nat}{b c:Bool}(d:Tmp)(hg:o.guard=some (j,b))(hd:(ops[j]?).bind (·.dst)=some d)(hv:a.tmps[d]? =some (.bool c))(hb:(c==b)=false)(h:wpT P ops C Q t (a.put o.dst undef) w):wpT P ops C Q (.op true o t) a w:=B2r ((A3i d hg hd hv).trans (by simpa[A6a] using hb)) h
theorem wpT_skipU{C:World→Prop}{a:Act}{w:World}{o:Oper}{t:OTree}{j:Nat}{b:Bool}(d:Tmp)(hg:o.guard=some (j,b))(hd:(ops[j]?).bind (·.dst)=some d)(hv:a.tmps[d]? =some undef)(h:wpT P ops C Q t (a.put o.dst undef) w):wpT P ops C Q (.op true o t) a w:=B2r ((A3i d hg hd hv).trans rfl) h
theorem A0s{C:World→Prop}{a:Act}{w:World}{o:Oper}{t:OTree}(h:wpList P ops (A2q C (fun a' w'=>wpT P ops C Q t a' w') Q) [o] a w):wpT P ops C Q (.op false o t) a w:=⟨h⟩
theorem Dx{a:Act}{w:World}{o:Oper}{C:World→Prop}{t:OTree}(h:∀K:Act→Prop,(∀a,wpT P ops C Q t a w→K a)→o.quiet P a C K)(hg:o.guard=none:=by exact rfl):wpT P ops C Q (.op true o t) a w:=wpT_free hg h
theorem Dy{a:Act}{w:World}{o:Oper}{C:World→Prop}{t:OTree}{j:Nat}{b:Bool}{d:Tmp}(h:∀K:Act→Prop,(∀a,wpT P ops C Q t a w→K a)→o.quiet P a C K)(hg:o.guard=some (j,b):=by exact rfl)(hd:(ops[j]?).bind (·.dst)=some d:=by exact rfl)(hv:a.tmps[d]? =some (.bool b):=by exact rfl):wpT P ops C Q (.op true o t) a w:=wpT_wantS d hg hd hv h
theorem Dz{a:Act}{w:World}{o:Oper}{C:World→Prop}{t:OTree}{j:Nat}{b c:Bool}{d:Tmp}(h:wpT P ops C Q t (a.put o.dst undef) w)(hg:o.guard=some (j,b):=by exact rfl)(hd:(ops[j]?).bind (·.dst)=some d:=by exact rfl)(hv:a.tmps[d]? =some (.bool c):=by exact rfl)(hb:(c==b)=false:=by exact rfl):wpT P ops C Q (.op true o t) a w:=wpT_skipS d hg hd hv hb h
theorem EA{a:Act}{w:World}{o:Oper}{C:World→Prop}{t:OTree}{j:Nat}{b:Bool}{d:Tmp}(h:wpT P ops C Q t (a.put o.dst undef) w)(hg:o.guard=some (j,b):=by exact rfl)(hd:(ops[j]?).bind (·.dst)=some d:=by exact rfl)(hv:a.tmps[d]? =some undef:=by exact rfl):wpT P ops C Q (.op true o t) a w:=wpT_skipU d hg hd hv h
theorem A2n{C:World→Prop}{a:Act}{w:World}{oi oj:Oper}{ti tj:OTree}(h1:wpList P ops (A2q C (fun a' w'=>wpT P ops C Q ti a' w') Q) [oi] a w)(h2:wpList P ops (A2q C (fun a' w'=>wpT P ops C Q tj a' w') Q) [oj] a w):
 wpT P ops C Q (.fork oi oj ti tj) a w:=⟨⟨h1,h2⟩⟩
end
structure RowT (w:World) (base:Nat) (ad:Addr) (c N:Nat) (l:List Tn):Prop where
 own:OwnO w base 259 2 (.slice (some ad) N c) N (A2c l)
 len:l.length=N
theorem RowT.below{w w':World}{base:Nat}{ad:Addr}{c N:Nat}{l:List Tn}(h:RowT w base ad c N l)(hb:Below w.heap.size w w'):RowT w' base ad c N l:=⟨h.own.below hb,h.len⟩
theorem RowT.drewN{w:World}{base:Nat}{ad:Addr}{c N:Nat}{l:List Tn}(h:RowT w base ad c N l)(k:Nat):RowT (w.drewN k) base ad c N l:=⟨h.own,h.len⟩
theorem RowT.drew{w:World}{base:Nat}{ad:Addr}{c N:Nat}{l:List Tn}(h:RowT w base ad c N l):RowT w.drew base ad c N l:=⟨h.own,h.len⟩
theorem B0z(x:Tn):(Tn.cells x).length=2:=rfl
theorem A1R{w:World}{base:Nat}{ad:Addr}{c N:Nat}{l:List Tn}(h:RowT w base ad c N l){j:Nat}{x:Tn}(hx:l[j]? =some x):
 w.cell? (ad.add (j*2))=some (.string (S x.text))∧w.cell? ⟨(ad.add (j*2)).block,(ad.add (j*2)).off+1,none⟩=some (.int .i64 x.at_):=by
 obtain⟨A',c',hv,_,_,hr⟩:=h.own.form
 cases hv
 have hj:j<N:=by rw[←h.len];exact(Av.1 hx).1
 obtain⟨ad',hl,e,_,hc⟩:=Rd.at_rec B0z EE hr hj
 cases e
 have he:l[j]=x:=(Av.1 hx).2
 rw[he] at hc
 refine⟨hc 0 _ rfl, ?_⟩
 have h1:=hc 1 _ rfl
 rwa[A0k] at h1
theorem A2K{l:List Tn}{j:Nat}(h:j<l.length)(x:Tn):((A2c l).set (j*2) (.string (S x.text))).set (j*2+1) (.int .i64 x.at_)=A2c (l.set j x):=by
 induction l generalizing j with
 |nil=>simp at h
 |cons y l ih=>
  cases j with
  |zero=>rfl
  |succ j=>
   have ih':=ih (j:=j) (by simpa using h)
   have hl:(Tn.cells y).length=2:=rfl
   show(Tn.cells y++A2c l|>.set ((j+1)*2) (.string (S x.text))|>.set ((j+1)*2+1) (.int .i64 x.at_))=Tn.cells y++A2c (l.set j x)
   rw[Ce _ _ (by rw[hl];omega),Ce _ _ (by rw[hl];omega),hl,show(j+1)*2-2=j*2 by omega,show(j+1)*2+1-2=j*2+1 by omega,ih']
theorem RowT.two{w w':World}{base:Nat}{ad:Addr}{c N:Nat}{A B C:List Tn}{x y:Tn}(h:RowT w base ad c N (A++x::(B++y::C)))(h':OwnO w' base 259 2 (.slice (some ad) N c) N (A2c (A++y::(B++x::C)))):RowT w' base ad c N (A++y::(B++x::C)):=
 ⟨h',by have:=h.len;simp only[AJ,AM] at this⊢;exact this⟩
theorem A4x(P X M Y R:List Tn)(hn:X.length=Y.length)(ad:Addr)(c N base a b n:Nat)(cl:Value)(w:World)(h:RowT w base ad c N (P++(X++(M++(Y++R)))))(hN:N≤1000000)(ha:a=P.length)(hb:b=P.length+X.length+M.length)(hnn:n=X.length):
 Calls Tryz.prog 257 #[.slice (some ad) N c,.int .i64 (a:Int),.int .i64 (b:Int),.int .i64 (n:Int),cl] w fun e w'=>e= .returned (.tuple #[])∧RowT w' base ad c N (P++(Y++(M++(X++R))))∧w.grownBy w' (some ad.block):=by
 have HSW:Hid (∀t,t<n→∃(x y:Tn) (A B C:List Tn),a+t=A.length∧b+t=A.length+1+B.length∧P++((Y.take t++X.drop t)++(M++((X.take t++Y.drop t)++R)))=A++x::(B++y::C)∧P++((Y.take (t+1)++X.drop (t+1))++(M++((X.take (t+1)++Y.drop (t+1))++R)))=A++y::(B++x::C)):=by
  intro t ht
  have hx:t<X.length:=EE
  have hy:t<Y.length:=EE
  refine⟨X[t],Y[t],P++Y.take t,X.drop (t+1)++(M++X.take t),Y.drop (t+1)++R, ?_, ?_, ?_, ?_⟩
  ·rw[AJ,AV];omega
  ·simp only[AJ,AV,AZ];omega
  ·rw[Ag hx,Ag hy];simp only[AN,Aj]
  ·rw[Aa hx,Aa hy];simp only[AN,Aj,Am]
 have HZ:Hid (n≤N∧a+n≤N∧b+n≤N∧a+n≤b):=by
  have:=h.len
  simp only[AJ] at this
  unfold Hid
  omega
 have HST:Hid (RowT w base ad c N (P++((Y.take 0++X.drop 0)++(M++((X.take 0++Y.drop 0)++R))))):=h
 have HEN:Hid (P++((Y.take n++X.drop n)++(M++((X.take n++Y.drop n)++R)))=P++(Y++(M++(X++R)))):=by
  unfold Hid
  rw[AX (l:=Y) EE,Au (l:=X) EE,AX (l:=X) EE,Au (l:=Y) EE];simp
 clear h ha hb hnn
 obtain⟨z1,z2,z3,z4⟩:=HZ.out
 go_enter Tryz.func257,Tryz.ntmps257
 go_wp2_with fail
 go_loopw [10] (fun iv wr=>∃t:Nat,t≤n∧iv= .int .i64 (t:Int)∧RowT wr base ad c N (P++((Y.take t++X.drop t)++(M++((X.take t++Y.drop t)++R))))∧w.grownBy wr (some ad.block)) (fun iv _=>n-(intOf iv).toNat)
 case atStart=>exact⟨0,AS _,rfl,HST.out,A0U _ _⟩
 case round=>
  clear HST
  obtain⟨t,ht,rfl,hrow,hgb⟩:=hrel
  by_cases hlt:t<n
  ·have g1:decide ((t:Int)<(n:Int))=true:=AG EE
   have g1':decide (t<n)=true:=AG hlt
   obtain⟨x,y,A,B,C,hA,hB,hl,hl'⟩:=HSW.out t hlt
   rw[hl] at hrow
   have HL':=AA hl'
   obtain⟨hxi,hyj,hsw,_⟩:=A5w A B C x y hA hB
   have hij:a+t≠b+t:=EE
   have hi9:a+t<N:=EE
   have hj9:b+t<N:=EE
   have HROW:=AA hrow
   have HOWN:=AA hrow.own
   have HSWP:=AA hsw
   obtain⟨ci0,ci1⟩:=A1R HROW.out hxi
   obtain⟨cj0,cj1⟩:=A1R HROW.out hyj
   have HCS:Hid (∀q:Tn,True):=fun _=>trivial
   have hlen:=hrow.len
   have hset:=A2K (l:=A++x::(B++y::C)) (j:=a+t) EE y
   have hset2:=A2K (l:=(A++x::(B++y::C)).set (a+t) y) (j:=b+t) (by rw[Bj];omega) x
   rw[←hset,hsw] at hset2
   clear hl hl' hA hB hsw hrow hxi hyj hset hlen HSW HEN
   clear HCS
   obtain⟨s0,f0⟩:=A0l HOWN.out (j:=(a+t)*2) EE (.string (S y.text))
   obtain⟨s1,f1⟩:=A0l s0 (j:=(a+t)*2+1) EE (.int .i64 y.at_)
   obtain⟨s2,f2⟩:=A0l s1 (j:=(b+t)*2) EE (.string (S x.text))
   obtain⟨s3,f3⟩:=A0l s2 (j:=(b+t)*2+1) EE (.int .i64 x.at_)
   have fi0:=(A0l HOWN.out (j:=(a+t)*2) EE (.int .i64 0)).2
   have fj0:=(A0l HOWN.out (j:=(b+t)*2) EE (.int .i64 0)).2
   have fi1:=(A0l HOWN.out (j:=(a+t)*2+1) EE (.int .i64 0)).2
   have fj1:=(A0l HOWN.out (j:=(b+t)*2+1) EE (.int .i64 0)).2
   rw[A0k] at fi1
   rw[A0k] at fj1
   rw[A0k ad ((a+t)*2),A0k ad ((b+t)*2)] at s3
   have hna:=A5L HOWN.out
   have mi1:(wr.setCell (ad.add ((a+t)*2)) (.string (S y.text))).cell? ⟨(ad.add ((a+t)*2)).block,(ad.add ((a+t)*2)).off+1,none⟩=some (.int .i64 x.at_):=((AY _ _ _ _ (show((ad.add ((a+t)*2)):Addr)≠(⟨(ad.add ((a+t)*2)).block,(ad.add ((a+t)*2)).off+1,none⟩:Addr) by rw[←A0k ad ((a+t)*2)];exact hna _ _ EE)).trans ci1)
   have pj0:((wr.setCell (ad.add ((a+t)*2)) (.string (S y.text))).setCell ⟨(ad.add ((a+t)*2)).block,(ad.add ((a+t)*2)).off+1,none⟩ (.int .i64 y.at_)).cell? (ad.add ((b+t)*2))=some (.string (S y.text)):=((AY _ _ _ _ (show(⟨(ad.add ((a+t)*2)).block,(ad.add ((a+t)*2)).off+1,none⟩:Addr)≠((ad.add ((b+t)*2)):Addr) by rw[←A0k ad ((a+t)*2)];exact hna _ _ EE)).trans ((AY _ _ _ _ (show((ad.add ((a+t)*2)):Addr)≠((ad.add ((b+t)*2)):Addr) by exact hna _ _ EE)).trans cj0))
   have pj1:((wr.setCell (ad.add ((a+t)*2)) (.string (S y.text))).setCell ⟨(ad.add ((a+t)*2)).block,(ad.add ((a+t)*2)).off+1,none⟩ (.int .i64 y.at_)).cell? ⟨(ad.add ((b+t)*2)).block,(ad.add ((b+t)*2)).off+1,none⟩=some (.int .i64 y.at_):=((AY _ _ _ _ (show(⟨(ad.add ((a+t)*2)).block,(ad.add ((a+t)*2)).off+1,none⟩:Addr)≠(⟨(ad.add ((b+t)*2)).block,(ad.add ((b+t)*2)).off+1,none⟩:Addr) by rw[←A0k ad ((a+t)*2),←A0k ad ((b+t)*2)];exact hna _ _ EE)).trans ((AY _ _ _ _ (show((ad.add ((a+t)*2)):Addr)≠(⟨(ad.add ((b+t)*2)).block,(ad.add ((b+t)*2)).off+1,none⟩:Addr) by rw[←A0k ad ((b+t)*2)];exact hna _ _ EE)).trans cj1))
   have mj1:(((wr.setCell (ad.add ((a+t)*2)) (.string (S y.text))).setCell ⟨(ad.add ((a+t)*2)).block,(ad.add ((a+t)*2)).off+1,none⟩ (.int .i64 y.at_)).setCell (ad.add ((b+t)*2)) (.string (S x.text))).cell? ⟨(ad.add ((b+t)*2)).block,(ad.add ((b+t)*2)).off+1,none⟩=some (.int .i64 y.at_):=((AY _ _ _ _ (show((ad.add ((b+t)*2)):Addr)≠(⟨(ad.add ((b+t)*2)).block,(ad.add ((b+t)*2)).off+1,none⟩:Addr) by rw[←A0k ad ((b+t)*2)];exact hna _ _ EE)).trans ((AY _ _ _ _ (show(⟨(ad.add ((a+t)*2)).block,(ad.add ((a+t)*2)).off+1,none⟩:Addr)≠(⟨(ad.add ((b+t)*2)).block,(ad.add ((b+t)*2)).off+1,none⟩:Addr) by rw[←A0k ad ((a+t)*2),←A0k ad ((b+t)*2)];exact hna _ _ EE)).trans ((AY _ _ _ _ (show((ad.add ((a+t)*2)):Addr)≠(⟨(ad.add ((b+t)*2)).block,(ad.add ((b+t)*2)).off+1,none⟩:Addr) by rw[←A0k ad ((b+t)*2)];exact hna _ _ EE)).trans cj1)))
   obtain⟨W9,hW9⟩:∃W9,W9=((((wr.setCell (ad.add ((a+t)*2)) (.string (S y.text))).setCell ⟨(ad.add ((a+t)*2)).block,(ad.add ((a+t)*2)).off+1,none⟩ (.int .i64 y.at_)).setCell (ad.add ((b+t)*2)) (.string (S x.text))).setCell ⟨(ad.add ((b+t)*2)).block,(ad.add ((b+t)*2)).off+1,none⟩ (.int .i64 x.at_)):=⟨_,rfl⟩
   rw[←hW9] at s3
   have hg9:wr.grownBy W9 (some ad.block):=by
    exact B9R
   have HW9:=AA hW9
   clear hW9
   have HS9:=AA s3
   clear s0 s1 s2 s3 hna
   clear f0 f1 f2 f3
   have k0:wr.cell? (ad.add ((b+t)*2))=some (.string (S y.text))∧wr.cell? ⟨(ad.add ((b+t)*2)).block,(ad.add ((b+t)*2)).off+1,none⟩=some (.int .i64 y.at_):=⟨cj0,cj1⟩
   have HK0:=AA k0;clear k0
   have kj:((wr.setCell (ad.add ((a+t)*2)) (.string (S y.text))).setCell ⟨(ad.add ((a+t)*2)).block,(ad.add ((a+t)*2)).off+1,none⟩ (.int .i64 y.at_)).cell? (ad.add ((b+t)*2))=some (.string (S y.text))∧((wr.setCell (ad.add ((a+t)*2)) (.string (S y.text))).setCell ⟨(ad.add ((a+t)*2)).block,(ad.add ((a+t)*2)).off+1,none⟩ (.int .i64 y.at_)).cell? ⟨(ad.add ((b+t)*2)).block,(ad.add ((b+t)*2)).off+1,none⟩=some (.int .i64 y.at_):=⟨pj0,pj1⟩
   have HKJ:=AA kj;clear kj
   go_wp2_with fail
   obtain⟨F1,HF1,hcell10,hcell11⟩:=cells2 (ad.add ((b+t)*2)) (.string (S y.text)) ⟨(ad.add ((b+t)*2)).block,(ad.add ((b+t)*2)).off+1,none⟩ (.int .i64 y.at_)
   refine A3e (.op 0 true (.op 1 true (.op 2 true (.op 3 true (.op 4 true (.op 5 true (.op 6 true (.op 7 true (.op 8 true (.op 9 true (.op 10 true (.op 11 true (.op 12 true (.op 13 true (.op 14 true (.op 15 true (.op 16 true (.op 17 true (.op 18 true (.op 19 false (.op 20 true (.op 21 false .nil)))))))))))))))))))))) 22 22 [23] F1 EG EG EG rfl (fun _ _ _ _ _ h=>h) EG (by rw[HF1.out];exact HK0.out) (by rw[HF1.out];exact fun h=>h) ?_
   intro hne1
   simp only[A1L,A2I,AT,AP,AR]
   repeat(first|((first|refine Dx ?_|refine Dy ?_);intro K hK;go_big_quiet_op;go_big_quiet_on)|((first|refine Dz ?_|refine EA ?_);simp only[Act.put,AB,AE,AF]))
   refine A0s ?_
   go_wp2_with fail
   refine ED HF1 ?_ HK0.out
   repeat(first|((first|refine Dx ?_|refine Dy ?_);intro K hK;go_big_quiet_op;go_big_quiet_on)|((first|refine Dz ?_|refine EA ?_);simp only[Act.put,AB,AE,AF]))
   refine A0s ?_
   go_wp2_with fail
   refine ED HF1 ?_ HKJ.out
   repeat(first|((first|refine Dx ?_|refine Dy ?_);intro K hK;go_big_quiet_op;go_big_quiet_on)|((first|refine Dz ?_|refine EA ?_);simp only[Act.put,AB,AE,AF]))
   refine A2r ?_
   refine A0Y ?_
   go_wp2_with fail
   refine A1n ?_
   refine A0Y ?_
   go_wp2_with fail
   refine A1n ?_
   refine A1z ?_
   clear mi1 pj0 pj1 mj1 HKJ HK0
   clear fi0 fj0 fi1 fj1
   rw[hset2] at HS9
   have HN9:=AA (HROW.out.two HS9.out)
   rw[Hid,←HL'.out] at HN9
   have HN9:=AA HN9
   have hgF:=A0M hgb hg9
   clear hset2 HL' HROW HOWN HSWP HS9 hgb hg9
   go_wp2_with fail
   rw[←HW9.out]
   exact⟨⟨t+1,by omega,by go_num,HN9.out.drew,A3Y hgF⟩,by simp[intOf];omega⟩
  ·obtain rfl:t=n:=EE
   have g1:decide ((t:Int)<(t:Int))=false:=AC EE
   have g1':decide (t<t)=false:=AC hlt
   rw[HEN.out] at hrow
   have HR9:=AA hrow
   clear hrow HSW HEN
   go_wp2_with fail
   go_end0
   exact⟨rfl,HR9.out,hgb⟩
theorem A2g(A u v C:List Tn)(ad:Addr)(c N base a m b:Nat)(cl:Value)(w:World)(h:RowT w base ad c N (A++(u++(v++C))))(hN:N≤1000000)(ha:a=A.length)(hm:m=a+u.length)(hb:b=m+v.length)(hu:0<u.length)(hv:0<v.length):
 Calls Tryz.prog 253 #[.slice (some ad) N c,.int .i64 (a:Int),.int .i64 (m:Int),.int .i64 (b:Int),cl] w fun e w'=>e= .returned (.tuple #[])∧RowT w' base ad c N (A++(v++(u++C)))∧w.grownBy w' (some ad.block):=by
 obtain⟨j0,hj0⟩:∃j0,j0=v.length:=⟨_,rfl⟩
 obtain⟨i0,hi0⟩:∃i0,i0=u.length:=⟨_,rfl⟩
 have e1:(m:Int)-(a:Int)=(i0:Int):=EE
 have e2:(b:Int)-(m:Int)=(j0:Int):=EE
 have HE:=AA (And.intro e1 e2)
 have HH:=AA (And.intro ha (And.intro hm (And.intro hi0 hj0)))
 have HROW:=AA h
 have hbN:b≤N:=by
  have:=h.len
  simp only[AJ] at this
  omega
 have hmb:m≤b:=EE
 have ham:a≤m:=EE
 have hi1:0<i0:=EE
 have hj1:0<j0:=EE
 have him:i0≤m:=EE
 have hjm:m+j0≤N:=EE
 clear h ha hm hb hu hv e1 e2 hi0 hj0
 go_enter Tryz.func253,Tryz.ntmps253
 go_wp2_with fail
 rw[HE.out.1,HE.out.2]
 go_loopw [10,11] (fun iv jv wr=>∃(i j:Nat) (P X Y R:List Tn),iv= .int .i64 (i:Int)∧jv= .int .i64 (j:Int)∧0<i∧0<j∧i≤m∧m+j≤N∧Hid (X.length=i∧Y.length=j∧P.length+i=m)∧RowT wr base ad c N (P++(X++(Y++R)))∧Hid (P++(Y++(X++R))=A++(v++(u++C)))∧w.grownBy wr (some ad.block)) (fun iv jv _=>(intOf iv).toNat+(intOf jv).toNat)
 case atStart=>exact⟨i0,j0,A,u,v,C,rfl,rfl,hi1,hj1,him,hjm,⟨HH.out.2.2.1.symm,HH.out.2.2.2.symm,by have:=HH.out;omega⟩,HROW.out,rfl,A0U _ _⟩
 case round=>
  clear HROW HH HE
  obtain⟨i,j,P,X,Y,R,rfl,rfl,hi1,hj1,him,hjm,HXY,hrow,HT,hgb⟩:=hrel
  have HROW:=AA hrow
  clear hrow
  have e3:(m:Int)-(i:Int)=((m-i:Nat):Int):=EE
  rcases De i j with hlt|heq|hgt
  ·have g1:((i:Int) !=(j:Int))=true:=by rw[Be];omega
   have g1':(i !=j)=true:=by rw[Be];omega
   have g2:decide ((j:Int)<(i:Int))=false:=AC EE
   have g2':decide (j<i)=false:=AC EE
   have e4:(m:Int)+(j:Int)-(i:Int)=((m+j-i:Nat):Int):=EE
   have e5:(j:Int)-(i:Int)=((j-i:Nat):Int):=EE
   obtain⟨h1,h2,h3⟩:=HXY.out
   have eY:Y.take (j-i)++Y.drop (j-i)=Y:=BC _ _
   have hr2:=HROW.out
   rw[←eY,AN] at hr2
   have HS:=AA (A4x P X (Y.take (j-i)) (Y.drop (j-i)) R (by rw[AZ];omega) ad c N base (m-i) (m+j-i) i cl wr hr2 hN EE (by rw[AV];omega) h1.symm)
   have HT3:Hid (P++(Y.take (j-i)++(Y.drop (j-i)++(X++R)))=A++(v++(u++C))):=by
    rw[Hid,←HT.out,←AN (Y.take (j-i)),eY]
   have HXY2:Hid ((Y.drop (j-i)).length=i∧(Y.take (j-i)).length=j-i∧P.length+i=m):=by
    refine⟨?_, ?_,h3⟩
    ·rw[AZ];omega
    ·rw[AV];omega
   clear h1 h2 h3 eY hr2 HXY HT HROW
   have HE3:=AA (And.intro e3 (And.intro e4 e5))
   clear e3 e4 e5
   go_wp2_with fail
   rw[HE3.out.1,HE3.out.2.1]
   refine HS.out.mono ?_
   rintro e w5 ⟨rfl,hrow5,hg5⟩
   have HR5:=AA hrow5
   have hgF:=A0M hgb hg5
   clear HS hrow5 hg5 hgb
   go_wp2_with fail
   go_roundw
   case rel=>exact⟨i,j-i,P,Y.drop (j-i),Y.take (j-i),X++R,rfl,by rw[HE3.out.2.2],by omega,by omega,by omega,by omega,HXY2,HR5.out,HT3,hgF⟩
   case measure=>simp[intOf];omega
  ·subst heq
   have g1:((i:Int) !=(i:Int))=false:=bne_self_eq_false' _
   have g1':(i !=i)=false:=bne_self_eq_false' _
   obtain⟨h1,h2,h3⟩:=HXY.out
   have hr2:=HROW.out
   rw[show X++(Y++R)=X++([]++(Y++R)) from rfl] at hr2
   have HS:=AA (A4x P X [] Y R EE ad c N base (m-i) m i cl wr hr2 hN EE (by simp;omega) h1.symm)
   clear h1 h2 h3 hr2 HXY HROW
   have HE3:=AA e3
   clear e3
   go_wp2_with fail
   rw[HE3.out]
   refine HS.out.mono ?_
   rintro e w5 ⟨rfl,hrow5,hg5⟩
   rw[Am,HT.out] at hrow5
   have HR5:=AA hrow5
   have hgF:=A0M hgb hg5
   clear HS hrow5 hg5 hgb
   go_wp2_with fail
   go_end0
   exact⟨rfl,HR5.out,hgF⟩
  ·have g1:((i:Int) !=(j:Int))=true:=by rw[Be];omega
   have g1':(i !=j)=true:=by rw[Be];omega
   have g2:decide ((j:Int)<(i:Int))=true:=AG EE
   have g2':decide (j<i)=true:=AG EE
   have e5:(i:Int)-(j:Int)=((i-j:Nat):Int):=EE
   obtain⟨h1,h2,h3⟩:=HXY.out
   have eX:X.take j++X.drop j=X:=BC _ _
   have hr2:=HROW.out
   rw[←eX,AN] at hr2
   have HS:=AA (A4x P (X.take j) (X.drop j) Y R (by rw[AV];omega) ad c N base (m-i) m j cl wr hr2 hN EE (by rw[AV,AZ];omega) (by rw[AV];omega))
   have HT2:Hid ((P++Y)++(X.drop j++(X.take j++R))=P++(Y++(X.drop j++(X.take j++R)))):=by unfold Hid;simp
   have HT3:Hid ((P++Y)++(X.take j++(X.drop j++R))=A++(v++(u++C))):=by
    rw[Hid,←HT.out,←AN (X.take j),eX,AN]
   have HXY2:Hid ((X.drop j).length=i-j∧(X.take j).length=j∧(P++Y).length+(i-j)=m):=by
    refine⟨?_, ?_, ?_⟩
    ·rw[AZ];omega
    ·rw[AV];omega
    ·rw[AJ];omega
   clear h1 h2 h3 eX hr2 HXY HT HROW
   have HE3:=AA (And.intro e3 e5)
   clear e3 e5
   go_wp2_with fail
   rw[HE3.out.1]
   refine HS.out.mono ?_
   rintro e w5 ⟨rfl,hrow5,hg5⟩
   rw[←HT2.out] at hrow5
   have HR5:=AA hrow5
   have hgF:=A0M hgb hg5
   clear HS hrow5 hg5 hgb
   go_wp2_with fail
   go_roundw
   case rel=>exact⟨i-j,j,P++Y,X.drop j,X.take j,R,by rw[HE3.out.2],rfl,by omega,by omega,by omega,by omega,HXY2,HR5.out,HT3,hgF⟩
   case measure=>simp[intOf];omega
def cvT(x y:Tn):Int:=Lib.compareBytes x.text y.text
def leT(x y:Tn):Bool:= !decide (cvT y x<0)
theorem A4b{x y:Tn}:leT x y=true↔¬cvT y x<0:=by unfold leT;simp
theorem A7H{x y:Tn}:leT x y=false↔cvT y x<0:=by unfold leT;simp
def QT(x:Tn):Prop:=0≤x.text.length
theorem tpT:Tp leT where
 trans a b c h1 h2:=by
  rw[A4b] at*
  unfold cvT at*
  rw[(A4w _ _).1] at*
  rw[Dg] at*
  exact List.le_trans h1 h2
 total a b:=by
  rw[CB,A4b,A4b]
  unfold cvT
  rw[(A4w _ _).1,(A4w _ _).1,Dg,Dg]
  exact List.le_total _ _
theorem A6A(x y:Tn)(hx:QT x)(hy:QT y)(w:World):
 Calls Tryz.prog 195 #[.agg #[.string (S x.text),.int .i64 x.at_],.agg #[.string (S y.text),.int .i64 y.at_]] w fun e w'=>e= .returned (.int .i64 (cvT x y))∧Below w.heap.size w w':=by
 have HC:=fun w=>AA (Tryz.strings_Compare (S x.text) (S y.text) w)
 rw[B5f,B5f] at HC
 obtain⟨z,hz⟩:∃z,z=cvT x y:=⟨_,rfl⟩
 have hz':Lib.compareBytes x.text y.text=z:=hz.symm
 rw[hz'] at HC
 rw[←hz]
 have qx:=hx;have qy:=hy
 clear hz hz' hx hy qx qy
 go_enter Tryz.func195,Tryz.ntmps195
 go_wp2_with fail
 refine(HC _).out.mono ?_
 rintro e w5 ⟨rfl,rfl⟩
 go_wp2_with fail
 go_ret
 exact⟨rfl,Ds⟩
theorem B6B(A v C:List Tn)(x:Tn)(ad:Addr)(c N base a m b:Nat)(w:World)(h:RowT w base ad c N (A++([x]++(v++C))))(hN:N≤1000000)(ha:a=A.length)(hm:m=a+1)(hb:b=m+v.length)(hv:0<v.length)(sv:SrtP leT v)(hq:∀y∈A++([x]++(v++C)),QT y):
 Calls Tryz.prog 244 #[.slice (some ad) N c,.int .i64 (a:Int),.int .i64 (m:Int),.int .i64 (b:Int),.func (.func 195) #[] #[]] w fun e w'=>e= .returned (.tuple #[])∧RowT w' base ad c N (A++([x].merge v leT++C))∧w.grownBy w' (some ad.block):=by
 have hlen:=h.len
 have hbN:b≤N:=by simp only[AJ,AM,BK] at hlen;omega
 have hmb:m<b:=EE
 have ham:a<m:=EE
 have ham1:m≤a+1:=EE
 have hxa:(A++([x]++(v++C)))[a]? =some x:=by rw[ha];simp
 have hvk:∀k,m≤k→k<b→(A++([x]++(v++C)))[k]? =v[k-m]? :=fun k h1 h2=>by
  rw[BH EE,BH (by simp only[AM,BK];omega),Bi (by simp only[AM,BK];omega)]
  congr 1
  simp only[AM,BK];omega
 have HVK:=AA hvk
 have HXA:=AA hxa
 have HQ:=AA hq
 have HH:=AA (And.intro ha (And.intro hm hb))
 have HSV:=AA sv
 have HROW:=AA h
 have g0:((m:Int)-(a:Int)==1)=true:=by rw[At];omega
 obtain⟨l,hl⟩:∃l,l=A++([x]++(v++C)):=⟨_,rfl⟩
 rw[Hid,←hl] at HROW HXA HVK HQ
 have HROW:=AA HROW;have HXA:=AA HXA;have HVK:=AA HVK;have HQ:=AA HQ
 have HL:=AA hl
 clear h hlen ha hm hb hv sv hq hxa hvk hl
 go_enter Tryz.func244,Tryz.ntmps244
 go_wp2_with fail
 go_loopw [10,11] (fun iv jv wr=>∃i j:Nat,iv= .int .i64 (i:Int)∧jv= .int .i64 (j:Int)∧m≤i∧i≤j∧j≤b∧RowT wr base ad c N l∧Hid ((∀y,m<i→l[i-1]? =some y→leT x y=false)∧(∀y,j<b→l[j]? =some y→leT x y=true))∧w.grownBy wr (some ad.block)) (fun iv jv _=>(intOf jv).toNat-(intOf iv).toNat)
 case atStart=>exact⟨m,b,rfl,rfl,AD _,by omega,AD _,HROW.out,⟨fun _ h=>absurd h EE,fun _ h=>absurd h EE⟩,A0U _ _⟩
 case round=>
  clear HROW
  obtain⟨i,j,rfl,rfl,hmi,hij,hjb,hrow,HB,hgb⟩:=hrel
  by_cases hlt:i<j
  ·obtain⟨q,hq⟩:∃q,q=(i+j)/2:=⟨_,rfl⟩
   have hq1:i≤q:=EE
   have hq2:q<j:=EE
   have e9:((i:Int)+(j:Int))/2=(q:Int):=EE
   have HE9:=AA e9
   obtain⟨y,hy⟩:∃y,l[q]? =some y:=⟨_,AL (by have:=hrow.len;omega)⟩
   have HY:=AA hy
   clear hq e9
   go_wp2_with fail
   rw[HE9.out]
   obtain⟨ci0,ci1⟩:=A1R hrow hy
   have ci0r:=BW ci0
   have ci1r:=BW ci1
   obtain⟨cj0,cj1⟩:=A1R hrow HXA.out
   have cj0r:=BW cj0
   have cj1r:=BW cj1
   have HC:=AA (A6A y x (HQ.out y (Bx hy)) (HQ.out x (Bx HXA.out)))
   have HR:=AA hrow
   clear hrow hy
   by_cases hc:cvT y x<0
   ·have g3:decide (cvT y x<0)=true:=AG hc
    refine wp_region_quiet_below EG EG ?_
    repeat(go_big_quiet_step ((go_at_call 195;exact BS (HC.out _))))
    refine wpQuiet_nil ?_
    intro w5 hb50
    have hb5:=A0B hb50
    clear hb50
    go_wp2_with fail
    go_roundw
    case rel=>exact⟨q+1,j,by go_num,rfl,by omega,by omega,hjb,HR.out.below hb5,⟨fun z _ hz=>by rw[show q+1-1=q by omega,HY.out] at hz;cases hz;exact A7H.2 hc,HB.out.2⟩,A2N hgb hb5⟩
    case measure=>simp[intOf];omega
   ·have g3:decide (cvT y x<0)=false:=AC hc
    refine wp_region_quiet_below EG EG ?_
    repeat(go_big_quiet_step ((go_at_call 195;exact BS (HC.out _))))
    refine wpQuiet_nil ?_
    intro w5 hb50
    have hb5:=A0B hb50
    clear hb50
    go_wp2_with fail
    go_roundw
    case rel=>exact⟨i,q,rfl,rfl,hmi,hq1,by omega,HR.out.below hb5,⟨HB.out.1,fun z _ hz=>by rw[HY.out] at hz;cases hz;exact A4b.2 hc⟩,A2N hgb hb5⟩
    case measure=>simp[intOf];omega
  ·obtain rfl:i=j:=EE
   have g1:decide ((i:Int)<(i:Int))=false:=AC EE
   have g1':decide (i<i)=false:=AC hlt
   obtain⟨h1,h2,h3⟩:=HH.out
   obtain⟨v1,hv1⟩:∃v1,v1=v.take (i-m):=⟨_,rfl⟩
   obtain⟨v2,hv2⟩:∃v2,v2=v.drop (i-m):=⟨_,rfl⟩
   have ev:v=v1++v2:=by rw[hv1,hv2,BC]
   have hl1:v1.length=i-m:=by rw[hv1,AV];omega
   have HM:Hid ([x].merge v leT=v1++x::v2):=by
    unfold Hid
    rw[ev]
    refine B3f tpT (by rw[←ev];exact HSV.out) (fun y hy=> ?_) (fun y hy=> ?_)
    ·rw[hv2,DP] at hy
     have h4:=(Av.1 hy).1
     exact HB.out.2 y EE (by rw[HVK.out i hmi EE];exact hy)
    ·rcases Cs hmi with h4|h4
     ·rw[hv1,←h4,Ca,Bs] at hy;cases hy
     ·rw[hv1,Cg,AV,BX EE,Bq,if_pos EE] at hy
      refine HB.out.1 y h4 ?_
      rw[HVK.out (i-1) EE EE,←hy]
      congr 1;omega
   have HR0:Hid (RowT wr base ad c N (A++(v1.take 0++(x::(v1.drop 0++(v2++C)))))):=by
    have e:A++(v1.take 0++(x::(v1.drop 0++(v2++C))))=l:=by rw[HL.out,ev];simp
    rw[Hid,e];exact hrow
   have HEV:=AA (And.intro h1 (And.intro h2 hl1))
   clear HB h1 h2 h3 hv1 hv2 ev hl1 hrow HVK HXA HQ HSV HL HH
   have hi1:a+1≤i:=EE
   go_wp2_with fail
   go_loopw [13] (fun kv wr=>∃t k:Nat,kv= .int .i64 (k:Int)∧Hid (k=a+t)∧a≤k∧k+1≤i∧RowT wr base ad c N (A++(v1.take t++(x::(v1.drop t++(v2++C)))))∧w.grownBy wr (some ad.block)) (fun kv _=>i-(intOf kv).toNat)
   case atStart=>exact⟨0,a,rfl,rfl,AD _,hi1,HR0.out,hgb⟩
   case round=>
    clear HR0 hgb
    obtain⟨t,k,rfl,hkt,hak,hki,hrow,hgb⟩:=hrel
    by_cases hk2:k+1<i
    ·have g4:decide ((k:Int)<(i:Int)-1)=true:=AG EE
     obtain⟨h1,h2,h3⟩:=HEV.out
     have ht:t<v1.length:=by have:=hkt.out;omega
     have hk1:k<N:=EE
     have hk3:k+1<N:=EE
     have hd:v1.drop t=v1[t]::v1.drop (t+1):=Ag ht
     have hlist:A++(v1.take t++(x::(v1.drop t++(v2++C))))=(A++v1.take t)++x::([]++v1[t]::(v1.drop (t+1)++(v2++C))):=by rw[hd];simp only[AN,Aj,Am]
     have hlist2:A++(v1.take (t+1)++(x::(v1.drop (t+1)++(v2++C))))=(A++v1.take t)++v1[t]::([]++x::(v1.drop (t+1)++(v2++C))):=by rw[Aa ht];simp only[AN,Aj,Am]
     have hA9:k=(A++v1.take t).length:=by rw[AJ,AV];have:=hkt.out;omega
     have hB9:k+1=(A++v1.take t).length+1+([]:List Tn).length:=by rw[←hA9];rfl
     have HLI:=AA hlist2
     rw[hlist] at hrow
     clear hlist hlist2 hd
     generalize v1[t]=y at*
     generalize A++v1.take t=A9 at*
     generalize([]:List Tn)=B9 at*
     generalize hC9:v1.drop (t+1)++(v2++C)=C9 at*
     have HC9:=AA hC9
     clear h1 h2 h3 ht hC9
     obtain⟨hxi,hyj,hsw,hsw2⟩:=A5w A9 B9 C9 x y hA9 hB9
     have HROW:=AA hrow
     have HOWN:=AA hrow.own
     obtain⟨ci0,ci1⟩:=A1R HROW.out hxi
     obtain⟨cj0,cj1⟩:=A1R HROW.out hyj
     have hlen:=hrow.len
     have hset:=A2K (l:=A9++x::(B9++y::C9)) (j:=k) EE y
     have hset2:=A2K (l:=(A9++x::(B9++y::C9)).set k y) (j:=(k+1)) (by rw[Bj];omega) x
     rw[←hset,hsw] at hset2
     have HSET:=AA hset2
     clear hA9 hB9 hsw hsw2 hrow hxi hyj hset hset2 hlen
     obtain⟨s0,f0⟩:=A0l HOWN.out (j:=k*2) EE (.string (S y.text))
     obtain⟨s1,f1⟩:=A0l s0 (j:=k*2+1) EE (.int .i64 y.at_)
     obtain⟨s2,f2⟩:=A0l s1 (j:=(k+1)*2) EE (.string (S x.text))
     obtain⟨s3,f3⟩:=A0l s2 (j:=(k+1)*2+1) EE (.int .i64 x.at_)
     have fi0:=(A0l HOWN.out (j:=k*2) EE (.int .i64 0)).2
     have fj0:=(A0l HOWN.out (j:=(k+1)*2) EE (.int .i64 0)).2
     have fi1:=(A0l HOWN.out (j:=k*2+1) EE (.int .i64 0)).2
     have fj1:=(A0l HOWN.out (j:=(k+1)*2+1) EE (.int .i64 0)).2
     rw[A0k] at fi1
     rw[A0k] at fj1
     rw[A0k ad (k*2),A0k ad ((k+1)*2)] at s3
     have hna:=A5L HOWN.out
     have mi1:(wr.setCell (ad.add (k*2)) (.string (S y.text))).cell? ⟨(ad.add (k*2)).block,(ad.add (k*2)).off+1,none⟩=some (.int .i64 x.at_):=((AY _ _ _ _ (show((ad.add (k*2)):Addr)≠(⟨(ad.add (k*2)).block,(ad.add (k*2)).off+1,none⟩:Addr) by rw[←A0k ad (k*2)];exact hna _ _ EE)).trans ci1)
     have pj0:((wr.setCell (ad.add (k*2)) (.string (S y.text))).setCell ⟨(ad.add (k*2)).block,(ad.add (k*2)).off+1,none⟩ (.int .i64 y.at_)).cell? (ad.add ((k+1)*2))=some (.string (S y.text)):=((AY _ _ _ _ (show(⟨(ad.add (k*2)).block,(ad.add (k*2)).off+1,none⟩:Addr)≠((ad.add ((k+1)*2)):Addr) by rw[←A0k ad (k*2)];exact hna _ _ EE)).trans ((AY _ _ _ _ (show((ad.add (k*2)):Addr)≠((ad.add ((k+1)*2)):Addr) by exact hna _ _ EE)).trans cj0))
     have pj1:((wr.setCell (ad.add (k*2)) (.string (S y.text))).setCell ⟨(ad.add (k*2)).block,(ad.add (k*2)).off+1,none⟩ (.int .i64 y.at_)).cell? ⟨(ad.add ((k+1)*2)).block,(ad.add ((k+1)*2)).off+1,none⟩=some (.int .i64 y.at_):=((AY _ _ _ _ (show(⟨(ad.add (k*2)).block,(ad.add (k*2)).off+1,none⟩:Addr)≠(⟨(ad.add ((k+1)*2)).block,(ad.add ((k+1)*2)).off+1,none⟩:Addr) by rw[←A0k ad (k*2),←A0k ad ((k+1)*2)];exact hna _ _ EE)).trans ((AY _ _ _ _ (show((ad.add (k*2)):Addr)≠(⟨(ad.add ((k+1)*2)).block,(ad.add ((k+1)*2)).off+1,none⟩:Addr) by rw[←A0k ad ((k+1)*2)];exact hna _ _ EE)).trans cj1))
     have mj1:(((wr.setCell (ad.add (k*2)) (.string (S y.text))).setCell ⟨(ad.add (k*2)).block,(ad.add (k*2)).off+1,none⟩ (.int .i64 y.at_)).setCell (ad.add ((k+1)*2)) (.string (S x.text))).cell? ⟨(ad.add ((k+1)*2)).block,(ad.add ((k+1)*2)).off+1,none⟩=some (.int .i64 y.at_):=((AY _ _ _ _ (show((ad.add ((k+1)*2)):Addr)≠(⟨(ad.add ((k+1)*2)).block,(ad.add ((k+1)*2)).off+1,none⟩:Addr) by rw[←A0k ad ((k+1)*2)];exact hna _ _ EE)).trans ((AY _ _ _ _ (show(⟨(ad.add (k*2)).block,(ad.add (k*2)).off+1,none⟩:Addr)≠(⟨(ad.add ((k+1)*2)).block,(ad.add ((k+1)*2)).off+1,none⟩:Addr) by rw[←A0k ad (k*2),←A0k ad ((k+1)*2)];exact hna _ _ EE)).trans ((AY _ _ _ _ (show((ad.add (k*2)):Addr)≠(⟨(ad.add ((k+1)*2)).block,(ad.add ((k+1)*2)).off+1,none⟩:Addr) by rw[←A0k ad ((k+1)*2)];exact hna _ _ EE)).trans cj1)))
     obtain⟨W9,hW9⟩:∃W9,W9=((((wr.setCell (ad.add (k*2)) (.string (S y.text))).setCell ⟨(ad.add (k*2)).block,(ad.add (k*2)).off+1,none⟩ (.int .i64 y.at_)).setCell (ad.add ((k+1)*2)) (.string (S x.text))).setCell ⟨(ad.add ((k+1)*2)).block,(ad.add ((k+1)*2)).off+1,none⟩ (.int .i64 x.at_)):=⟨_,rfl⟩
     rw[←hW9] at s3
     have hg9:wr.grownBy W9 (some ad.block):=by
      exact B9R
     have HW9:=AA hW9
     clear hW9
     have HS9:=AA s3
     clear s0 s1 s2 s3 hna
     clear f0 f1 f2 f3
     have k0:wr.cell? (ad.add ((k+1)*2))=some (.string (S y.text))∧wr.cell? ⟨(ad.add ((k+1)*2)).block,(ad.add ((k+1)*2)).off+1,none⟩=some (.int .i64 y.at_):=⟨cj0,cj1⟩
     have HK0:=AA k0;clear k0
     have kj:((wr.setCell (ad.add (k*2)) (.string (S y.text))).setCell ⟨(ad.add (k*2)).block,(ad.add (k*2)).off+1,none⟩ (.int .i64 y.at_)).cell? (ad.add ((k+1)*2))=some (.string (S y.text))∧((wr.setCell (ad.add (k*2)) (.string (S y.text))).setCell ⟨(ad.add (k*2)).block,(ad.add (k*2)).off+1,none⟩ (.int .i64 y.at_)).cell? ⟨(ad.add ((k+1)*2)).block,(ad.add ((k+1)*2)).off+1,none⟩=some (.int .i64 y.at_):=⟨pj0,pj1⟩
     have HKJ:=AA kj;clear kj
     go_wp2_with fail
     obtain⟨F1,HF1,hcell10,hcell11⟩:=cells2 (ad.add ((k+1)*2)) (.string (S y.text)) ⟨(ad.add ((k+1)*2)).block,(ad.add ((k+1)*2)).off+1,none⟩ (.int .i64 y.at_)
     refine A3e (.op 0 true (.op 1 true (.op 2 true (.op 3 true (.op 4 true (.op 5 true (.op 6 true (.op 7 true (.op 8 true (.op 9 true (.op 10 true (.op 11 true (.op 12 true (.op 13 false (.op 14 true (.op 15 false .nil)))))))))))))))) 16 16 [17] F1 EG EG EG rfl (fun _ _ _ _ _ h=>h) EG (by rw[HF1.out];exact HK0.out) (by rw[HF1.out];exact fun h=>h) ?_
     intro hne1
     simp only[A1L,A2I,AT,AP,AR]
     repeat(first|((first|refine Dx ?_|refine Dy ?_);intro K hK;go_big_quiet_op;go_big_quiet_on)|((first|refine Dz ?_|refine EA ?_);simp only[Act.put,AB,AE,AF]))
     refine A0s ?_
     go_wp2_with fail
     refine ED HF1 ?_ HK0.out
     repeat(first|((first|refine Dx ?_|refine Dy ?_);intro K hK;go_big_quiet_op;go_big_quiet_on)|((first|refine Dz ?_|refine EA ?_);simp only[Act.put,AB,AE,AF]))
     refine A0s ?_
     go_wp2_with fail
     refine ED HF1 ?_ HKJ.out
     repeat(first|((first|refine Dx ?_|refine Dy ?_);intro K hK;go_big_quiet_op;go_big_quiet_on)|((first|refine Dz ?_|refine EA ?_);simp only[Act.put,AB,AE,AF]))
     refine A2r ?_
     refine A0Y ?_
     go_wp2_with fail
     refine A1n ?_
     refine A0Y ?_
     go_wp2_with fail
     refine A1n ?_
     refine A1z ?_
     clear mi1 pj0 pj1 mj1 HKJ HK0
     clear fi0 fj0 fi1 fj1
     rw[HSET.out] at HS9
     have HN9:=AA (HROW.out.two HS9.out)
     clear HSET HROW HOWN HS9
     rw[Hid,←HLI.out,←HC9.out] at HN9
     have HN9:=AA HN9
     have hgF:=A0M hgb hg9
     clear HLI HC9 hgb hg9
     go_wp2_with fail
     rw[←HW9.out]
     exact⟨⟨t+1,k+1,by go_num,by rw[Hid,hkt.out];omega,by omega,by omega,HN9.out.drew,A3Y hgF⟩,by simp[intOf];omega⟩
    ·have g4:decide ((k:Int)<(i:Int)-1)=false:=AC EE
     obtain⟨h1,h2,h3⟩:=HEV.out
     have ht:v1.length≤t:=by have:=hkt.out;omega
     rw[AX ht,Au ht,Am] at hrow
     have HF:Hid (A++(v1++x::(v2++C))=A++([x].merge v leT++C)):=by rw[Hid,HM.out];simp only[AN,Aj]
     rw[HF.out] at hrow
     have HR9:=AA hrow
     clear hrow h1 h2 h3 ht HF HM HEV
     exact C1I
theorem B6C(A u C:List Tn)(y:Tn)(ad:Addr)(c N base a m b:Nat)(w:World)(h:RowT w base ad c N (A++(u++([y]++C))))(hN:N≤1000000)(ha:a=A.length)(hm:m=a+u.length)(hb:b=m+1)(hu:1<u.length)(su:SrtP leT u)(hq:∀z∈A++(u++([y]++C)),QT z):
 Calls Tryz.prog 244 #[.slice (some ad) N c,.int .i64 (a:Int),.int .i64 (m:Int),.int .i64 (b:Int),.func (.func 195) #[] #[]] w fun e w'=>e= .returned (.tuple #[])∧RowT w' base ad c N (A++(u.merge [y] leT++C))∧w.grownBy w' (some ad.block):=by
 have hlen:=h.len
 have hbN:b≤N:=by simp only[AJ,AM,BK] at hlen;omega
 have hmb:m<b:=EE
 have ham:a<m:=EE
 have hxm:(A++(u++([y]++C)))[m]? =some y:=by
  rw[BH EE,BH EE,show m-A.length-u.length=0 by omega];rfl
 have huk:∀k,a≤k→k<m→(A++(u++([y]++C)))[k]? =u[k-a]? :=fun k h1 h2=>by
  rw[BH EE,Bi EE]
  congr 1;omega
 have HUK:=AA huk
 have HXM:=AA hxm
 have HQ:=AA hq
 have HH:=AA (And.intro ha hm)
 have HSU:=AA su
 have HROW:=AA h
 have g0:((m:Int)-(a:Int)==1)=false:=by rw[AH];omega
 have g00:((b:Int)-(m:Int)==1)=true:=by rw[At];omega
 obtain⟨l,hl⟩:∃l,l=A++(u++([y]++C)):=⟨_,rfl⟩
 rw[Hid,←hl] at HROW HXM HUK HQ
 have HROW:=AA HROW;have HXM:=AA HXM;have HUK:=AA HUK;have HQ:=AA HQ
 have HL:=AA hl
 clear h hlen ha hm hb hu su hq hxm huk hl
 go_enter Tryz.func244,Tryz.ntmps244
 go_wp2_with fail
 go_loopw [14,15] (fun iv jv wr=>∃i j:Nat,iv= .int .i64 (i:Int)∧jv= .int .i64 (j:Int)∧a≤i∧i≤j∧j≤m∧RowT wr base ad c N l∧Hid ((∀z,a<i→l[i-1]? =some z→leT z y=true)∧(∀z,j<m→l[j]? =some z→leT z y=false))∧w.grownBy wr (some ad.block)) (fun iv jv _=>(intOf jv).toNat-(intOf iv).toNat)
 case atStart=>exact⟨a,m,rfl,rfl,AD _,by omega,AD _,HROW.out,⟨fun _ h=>absurd h EE,fun _ h=>absurd h EE⟩,A0U _ _⟩
 case round=>
  clear HROW
  obtain⟨i,j,rfl,rfl,hai,hij,hjm,hrow,HB,hgb⟩:=hrel
  by_cases hlt:i<j
  ·obtain⟨q,hq⟩:∃q,q=(i+j)/2:=⟨_,rfl⟩
   have hq1:i≤q:=EE
   have hq2:q<j:=EE
   have e9:((i:Int)+(j:Int))/2=(q:Int):=EE
   have HE9:=AA e9
   obtain⟨z,hz⟩:∃z,l[q]? =some z:=⟨_,AL (by have:=hrow.len;omega)⟩
   have HY:=AA hz
   clear hq e9
   go_wp2_with fail
   rw[HE9.out]
   obtain⟨ci0,ci1⟩:=A1R hrow HXM.out
   have ci0r:=BW ci0
   have ci1r:=BW ci1
   obtain⟨cj0,cj1⟩:=A1R hrow hz
   have cj0r:=BW cj0
   have cj1r:=BW cj1
   have HC:=AA (A6A y z (HQ.out y (Bx HXM.out)) (HQ.out z (Bx hz)))
   have HR:=AA hrow
   clear hrow hz
   by_cases hc:cvT y z<0
   ·have g3:decide (cvT y z<0)=true:=AG hc
    refine wp_region_quiet_below EG EG ?_
    repeat(go_big_quiet_step ((go_at_call 195;exact BS (HC.out _))))
    refine wpQuiet_nil ?_
    intro w5 hb50
    have hb5:=A0B hb50
    clear hb50
    go_wp2_with fail
    go_roundw
    case rel=>exact⟨i,q,rfl,rfl,hai,hq1,by omega,HR.out.below hb5,⟨HB.out.1,fun z' _ hz=>by rw[HY.out] at hz;cases hz;exact A7H.2 hc⟩,A2N hgb hb5⟩
    case measure=>simp[intOf];omega
   ·have g3:decide (cvT y z<0)=false:=AC hc
    refine wp_region_quiet_below EG EG ?_
    repeat(go_big_quiet_step ((go_at_call 195;exact BS (HC.out _))))
    refine wpQuiet_nil ?_
    intro w5 hb50
    have hb5:=A0B hb50
    clear hb50
    go_wp2_with fail
    go_roundw
    case rel=>exact⟨q+1,j,by go_num,rfl,by omega,by omega,hjm,HR.out.below hb5,⟨fun z' _ hz=>by rw[show q+1-1=q by omega,HY.out] at hz;cases hz;exact A4b.2 hc,HB.out.2⟩,A2N hgb hb5⟩
    case measure=>simp[intOf];omega
  ·obtain rfl:i=j:=EE
   have g1:decide ((i:Int)<(i:Int))=false:=AC EE
   have g1':decide (i<i)=false:=AC hlt
   obtain⟨h1,h2⟩:=HH.out
   obtain⟨u1,hu1⟩:∃u1,u1=u.take (i-a):=⟨_,rfl⟩
   obtain⟨u2,hu2⟩:∃u2,u2=u.drop (i-a):=⟨_,rfl⟩
   have eu:u=u1++u2:=by rw[hu1,hu2,BC]
   have hl1:u1.length=i-a:=by rw[hu1,AV];omega
   have hl2:u2.length=m-i:=by rw[hu2,AZ];omega
   have HM:Hid (u.merge [y] leT=u1++y::u2):=by
    unfold Hid
    rw[eu]
    refine A5W tpT (by rw[←eu];exact HSU.out) (fun z hz=> ?_) (fun z hz=> ?_)
    ·rcases Cs hai with h4|h4
     ·rw[hu1,←h4,Ca,Bs] at hz;cases hz
     ·rw[hu1,Cg,AV,BX EE,Bq,if_pos EE] at hz
      refine HB.out.1 z h4 ?_
      rw[HUK.out (i-1) EE EE,←hz]
      congr 1;omega
    ·rw[hu2,DP] at hz
     have h4:=(Av.1 hz).1
     exact HB.out.2 z EE (by rw[HUK.out i hai EE];exact hz)
   have HR0:Hid (RowT wr base ad c N (A++(u1++(u2.take (m-i)++(y::(u2.drop (m-i)++C)))))):=by
    have e:A++(u1++(u2.take (m-i)++(y::(u2.drop (m-i)++C))))=l:=by
     rw[HL.out,eu,AX EE,Au EE];simp
    rw[Hid,e];exact hrow
   have HEV:=AA (And.intro h1 (And.intro hl1 hl2))
   clear HB h1 h2 hu1 hu2 eu hl1 hl2 hrow HUK HXM HQ HSU HL HH
   go_wp2_with fail
   go_loopw [17] (fun kv wr=>∃r k:Nat,kv= .int .i64 (k:Int)∧Hid (k=i+r)∧i≤k∧k≤m∧RowT wr base ad c N (A++(u1++(u2.take r++(y::(u2.drop r++C)))))∧w.grownBy wr (some ad.block)) (fun kv _=>(intOf kv).toNat)
   case atStart=>exact⟨m-i,m,rfl,by unfold Hid;omega,hjm,AD _,HR0.out,hgb⟩
   case round=>
    clear HR0 hgb
    obtain⟨r,k,rfl,hkr,hik,hkm,hrow,hgb⟩:=hrel
    by_cases hk2:i<k
    ·obtain⟨κ,rfl⟩:∃κ,k=κ+1:=⟨k-1,by omega⟩
     obtain⟨r,rfl⟩:∃q,r=q+1:=⟨r-1,by have:=hkr.out;omega⟩
     have g4:decide ((i:Int)<(κ:Int)+1)=true:=AG EE
     have g4':decide (i<κ+1)=true:=AG EE
     obtain⟨h1,h2,h3⟩:=HEV.out
     have hr:r<u2.length:=by have:=hkr.out;omega
     have hk1:κ<N:=EE
     have hk3:κ+1<N:=EE
     have hd:u2.drop r=u2[r]::u2.drop (r+1):=Ag hr
     have hlist:A++(u1++(u2.take (r+1)++(y::(u2.drop (r+1)++C))))=(A++(u1++u2.take r))++u2[r]::([]++y::(u2.drop (r+1)++C)):=by rw[Aa hr];simp only[AN,Aj,Am]
     have hlist2:A++(u1++(u2.take r++(y::(u2.drop r++C))))=(A++(u1++u2.take r))++y::([]++u2[r]::(u2.drop (r+1)++C)):=by rw[hd];simp only[AN,Aj,Am]
     have hA9:κ=(A++(u1++u2.take r)).length:=by simp only[AJ,AV];have:=hkr.out;omega
     have hB9:κ+1=(A++(u1++u2.take r)).length+1+([]:List Tn).length:=by rw[←hA9];rfl
     have HLI:=AA hlist2
     rw[hlist] at hrow
     clear hlist hlist2 hd
     generalize u2[r]=x at*
     generalize A++(u1++u2.take r)=A9 at*
     generalize([]:List Tn)=B9 at*
     generalize u2.drop (r+1)++C=C9 at*
     clear h1 h2 h3 hr
     obtain⟨hxi,hyj,hsw,hsw2⟩:=A5w A9 B9 C9 x y hA9 hB9
     have HROW:=AA hrow
     have HOWN:=AA hrow.own
     obtain⟨ci0,ci1⟩:=A1R HROW.out hyj
     obtain⟨cj0,cj1⟩:=A1R HROW.out hxi
     have hlen:=hrow.len
     have hset:=A2K (l:=A9++x::(B9++y::C9)) (j:=(κ+1)) EE x
     have hset2:=A2K (l:=(A9++x::(B9++y::C9)).set (κ+1) x) (j:=κ) (by rw[Bj];omega) y
     rw[←hset,hsw2] at hset2
     have HSET:=AA hset2
     clear hA9 hB9 hsw hsw2 hrow hxi hyj hset hset2 hlen
     obtain⟨s0,f0⟩:=A0l HOWN.out (j:=(κ+1)*2) EE (.string (S x.text))
     obtain⟨s1,f1⟩:=A0l s0 (j:=(κ+1)*2+1) EE (.int .i64 x.at_)
     obtain⟨s2,f2⟩:=A0l s1 (j:=κ*2) EE (.string (S y.text))
     obtain⟨s3,f3⟩:=A0l s2 (j:=κ*2+1) EE (.int .i64 y.at_)
     have fi0:=(A0l HOWN.out (j:=(κ+1)*2) EE (.int .i64 0)).2
     have fj0:=(A0l HOWN.out (j:=κ*2) EE (.int .i64 0)).2
     have fi1:=(A0l HOWN.out (j:=(κ+1)*2+1) EE (.int .i64 0)).2
     have fj1:=(A0l HOWN.out (j:=κ*2+1) EE (.int .i64 0)).2
     rw[A0k] at fi1
     rw[A0k] at fj1
     rw[A0k ad ((κ+1)*2),A0k ad (κ*2)] at s3
     have hna:=A5L HOWN.out
     have mi1:(wr.setCell (ad.add ((κ+1)*2)) (.string (S x.text))).cell? ⟨(ad.add ((κ+1)*2)).block,(ad.add ((κ+1)*2)).off+1,none⟩=some (.int .i64 y.at_):=((AY _ _ _ _ (show((ad.add ((κ+1)*2)):Addr)≠(⟨(ad.add ((κ+1)*2)).block,(ad.add ((κ+1)*2)).off+1,none⟩:Addr) by rw[←A0k ad ((κ+1)*2)];exact hna _ _ EE)).trans ci1)
     have pj0:((wr.setCell (ad.add ((κ+1)*2)) (.string (S x.text))).setCell ⟨(ad.add ((κ+1)*2)).block,(ad.add ((κ+1)*2)).off+1,none⟩ (.int .i64 x.at_)).cell? (ad.add (κ*2))=some (.string (S x.text)):=((AY _ _ _ _ (show(⟨(ad.add ((κ+1)*2)).block,(ad.add ((κ+1)*2)).off+1,none⟩:Addr)≠((ad.add (κ*2)):Addr) by rw[←A0k ad ((κ+1)*2)];exact hna _ _ EE)).trans ((AY _ _ _ _ (show((ad.add ((κ+1)*2)):Addr)≠((ad.add (κ*2)):Addr) by exact hna _ _ EE)).trans cj0))
     have pj1:((wr.setCell (ad.add ((κ+1)*2)) (.string (S x.text))).setCell ⟨(ad.add ((κ+1)*2)).block,(ad.add ((κ+1)*2)).off+1,none⟩ (.int .i64 x.at_)).cell? ⟨(ad.add (κ*2)).block,(ad.add (κ*2)).off+1,none⟩=some (.int .i64 x.at_):=((AY _ _ _ _ (show(⟨(ad.add ((κ+1)*2)).block,(ad.add ((κ+1)*2)).off+1,none⟩:Addr)≠(⟨(ad.add (κ*2)).block,(ad.add (κ*2)).off+1,none⟩:Addr) by rw[←A0k ad ((κ+1)*2),←A0k ad (κ*2)];exact hna _ _ EE)).trans ((AY _ _ _ _ (show((ad.add ((κ+1)*2)):Addr)≠(⟨(ad.add (κ*2)).block,(ad.add (κ*2)).off+1,none⟩:Addr) by rw[←A0k ad (κ*2)];exact hna _ _ EE)).trans cj1))
     have mj1:(((wr.setCell (ad.add ((κ+1)*2)) (.string (S x.text))).setCell ⟨(ad.add ((κ+1)*2)).block,(ad.add ((κ+1)*2)).off+1,none⟩ (.int .i64 x.at_)).setCell (ad.add (κ*2)) (.string (S y.text))).cell? ⟨(ad.add (κ*2)).block,(ad.add (κ*2)).off+1,none⟩=some (.int .i64 x.at_):=((AY _ _ _ _ (show((ad.add (κ*2)):Addr)≠(⟨(ad.add (κ*2)).block,(ad.add (κ*2)).off+1,none⟩:Addr) by rw[←A0k ad (κ*2)];exact hna _ _ EE)).trans ((AY _ _ _ _ (show(⟨(ad.add ((κ+1)*2)).block,(ad.add ((κ+1)*2)).off+1,none⟩:Addr)≠(⟨(ad.add (κ*2)).block,(ad.add (κ*2)).off+1,none⟩:Addr) by rw[←A0k ad ((κ+1)*2),←A0k ad (κ*2)];exact hna _ _ EE)).trans ((AY _ _ _ _ (show((ad.add ((κ+1)*2)):Addr)≠(⟨(ad.add (κ*2)).block,(ad.add (κ*2)).off+1,none⟩:Addr) by rw[←A0k ad (κ*2)];exact hna _ _ EE)).trans cj1)))
     obtain⟨W9,hW9⟩:∃W9,W9=((((wr.setCell (ad.add ((κ+1)*2)) (.string (S x.text))).setCell ⟨(ad.add ((κ+1)*2)).block,(ad.add ((κ+1)*2)).off+1,none⟩ (.int .i64 x.at_)).setCell (ad.add (κ*2)) (.string (S y.text))).setCell ⟨(ad.add (κ*2)).block,(ad.add (κ*2)).off+1,none⟩ (.int .i64 y.at_)):=⟨_,rfl⟩
     rw[←hW9] at s3
     have hg9:wr.grownBy W9 (some ad.block):=by
      exact B9R
     have HW9:=AA hW9
     clear hW9
     have HS9:=AA s3
     clear s0 s1 s2 s3 hna
     clear f0 f1 f2 f3
     have k0:wr.cell? (ad.add (κ*2))=some (.string (S x.text))∧wr.cell? ⟨(ad.add (κ*2)).block,(ad.add (κ*2)).off+1,none⟩=some (.int .i64 x.at_):=⟨cj0,cj1⟩
     have HK0:=AA k0;clear k0
     have kj:((wr.setCell (ad.add ((κ+1)*2)) (.string (S x.text))).setCell ⟨(ad.add ((κ+1)*2)).block,(ad.add ((κ+1)*2)).off+1,none⟩ (.int .i64 x.at_)).cell? (ad.add (κ*2))=some (.string (S x.text))∧((wr.setCell (ad.add ((κ+1)*2)) (.string (S x.text))).setCell ⟨(ad.add ((κ+1)*2)).block,(ad.add ((κ+1)*2)).off+1,none⟩ (.int .i64 x.at_)).cell? ⟨(ad.add (κ*2)).block,(ad.add (κ*2)).off+1,none⟩=some (.int .i64 x.at_):=⟨pj0,pj1⟩
     have HKJ:=AA kj;clear kj
     go_wp2_with fail
     obtain⟨F1,HF1,hcell10,hcell11⟩:=cells2 (ad.add (κ*2)) (.string (S x.text)) ⟨(ad.add (κ*2)).block,(ad.add (κ*2)).off+1,none⟩ (.int .i64 x.at_)
     refine A3e (.op 0 true (.op 1 true (.op 2 true (.op 3 true (.op 4 true (.op 5 true (.op 6 true (.op 7 true (.op 8 true (.op 9 true (.op 10 true (.op 11 true (.op 12 true (.op 13 false (.op 14 true (.op 15 false .nil)))))))))))))))) 16 16 [17] F1 EG EG EG rfl (fun _ _ _ _ _ h=>h) EG (by rw[HF1.out];exact HK0.out) (by rw[HF1.out];exact fun h=>h) ?_
     intro hne1
     simp only[A1L,A2I,AT,AP,AR]
     repeat(first|((first|refine Dx ?_|refine Dy ?_);intro K hK;go_big_quiet_op;go_big_quiet_on)|((first|refine Dz ?_|refine EA ?_);simp only[Act.put,AB,AE,AF]))
     refine A0s ?_
     go_wp2_with fail
     refine ED HF1 ?_ HK0.out
     repeat(first|((first|refine Dx ?_|refine Dy ?_);intro K hK;go_big_quiet_op;go_big_quiet_on)|((first|refine Dz ?_|refine EA ?_);simp only[Act.put,AB,AE,AF]))
     refine A0s ?_
     go_wp2_with fail
     refine ED HF1 ?_ HKJ.out
     repeat(first|((first|refine Dx ?_|refine Dy ?_);intro K hK;go_big_quiet_op;go_big_quiet_on)|((first|refine Dz ?_|refine EA ?_);simp only[Act.put,AB,AE,AF]))
     refine A2r ?_
     refine A0Y ?_
     go_wp2_with fail
     refine A1n ?_
     refine A0Y ?_
     go_wp2_with fail
     refine A1n ?_
     refine A1z ?_
     clear mi1 pj0 pj1 mj1 HKJ HK0
     clear fi0 fj0 fi1 fj1
     rw[HSET.out] at HS9
     have HN9:=AA (HROW.out.two HS9.out)
     clear HSET HROW HOWN HS9
     rw[Hid,←HLI.out] at HN9
     have HN9:=AA HN9
     have hgF:=A0M hgb hg9
     clear HLI hgb hg9
     go_wp2_with fail
     rw[←HW9.out]
     exact⟨⟨r,κ,by go_num,by have:=hkr.out;unfold Hid;omega,by omega,by omega,HN9.out.drew,A3Y hgF⟩,by simp[intOf]⟩
    ·have g4:decide ((i:Int)<(k:Int))=false:=AC EE
     have g4':decide (i<k)=false:=AC EE
     have hr:r=0:=by have:=hkr.out;omega
     subst hr
     rw[Bs,Az,Am] at hrow
     have HF:Hid (A++(u1++y::(u2++C))=A++(u.merge [y] leT++C)):=by rw[Hid,HM.out];simp only[AN,Aj]
     rw[HF.out] at hrow
     have HR9:=AA hrow
     clear hrow HF HM HEV
     exact C1I
def SymT(f:Nat):Prop:=∀(A u v C:List Tn) (ad:Addr) (c N base a m b:Nat) (w:World),RowT w base ad c N (A++(u++(v++C)))→N≤1000000→a=A.length→m=a+u.length→b=m+v.length→0<u.length→0<v.length→SrtP leT u→SrtP leT v→(∀z∈A++(u++(v++C)),QT z)→u.length+v.length≤f→
 Calls Tryz.prog 244 #[.slice (some ad) N c,.int .i64 (a:Int),.int .i64 (m:Int),.int .i64 (b:Int),.func (.func 195) #[] #[]] w fun e w'=>e= .returned (.tuple #[])∧RowT w' base ad c N (A++(u.merge v leT++C))∧w.grownBy w' (some ad.block)
theorem B6D(f:Nat)(ih:SymT f)(A u v C:List Tn)(ad:Addr)(c N base a m b:Nat)(w:World)(h:RowT w base ad c N (A++(u++(v++C))))(hN:N≤1000000)(ha:a=A.length)(hm:m=a+u.length)(hb:b=m+v.length)(hu:1<u.length)(hv:1<v.length)(su:SrtP leT u)(sv:SrtP leT v)(hq:∀z∈A++(u++(v++C)),QT z)(hf:u.length+v.length≤f+1):
 Calls Tryz.prog 244 #[.slice (some ad) N c,.int .i64 (a:Int),.int .i64 (m:Int),.int .i64 (b:Int),.func (.func 195) #[] #[]] w fun e w'=>e= .returned (.tuple #[])∧RowT w' base ad c N (A++(u.merge v leT++C))∧w.grownBy w' (some ad.block):=by
 have hlen:=h.len
 have hbN:b≤N:=by simp only[AJ] at hlen;omega
 have hmb:m+1<b:=EE
 have ham:a+1<m:=EE
 have HQ:=AA hq
 have HH:=AA (And.intro ha (And.intro hm (And.intro hb hf)))
 have HS:=AA (And.intro su sv)
 have HROW:=AA h
 have g0:((m:Int)-(a:Int)==1)=false:=by rw[AH];omega
 have g00:((b:Int)-(m:Int)==1)=false:=by rw[AH];omega
 obtain⟨l,hl⟩:∃l,l=A++(u++(v++C)):=⟨_,rfl⟩
 rw[Hid,←hl] at HROW HQ
 have HROW:=AA HROW;have HQ:=AA HQ
 have HL:=AA hl
 have HIH:=AA ih
 obtain⟨mid,hmid⟩:∃mid,mid=(a+b)/2:=⟨_,rfl⟩
 obtain⟨nn,hnn⟩:∃nn,nn=mid+m:=⟨_,rfl⟩
 obtain⟨pp,hpp⟩:∃pp,pp+1=nn:=⟨nn-1,by omega⟩
 obtain⟨lo,hlo⟩:∃lo,lo=if mid<m then nn-b else a:=⟨_,rfl⟩
 obtain⟨hi,hhi⟩:∃hi,hi=if mid<m then mid else m:=⟨_,rfl⟩
 have hlohi:lo≤hi∧a≤lo∧hi≤m∧hi≤mid∧nn≤lo+b∧(lo=a∨lo+b=nn)∧(hi=m∨hi=mid):=by
  rw[hlo,hhi]
  by_cases hc:mid<m
  ·rw[if_pos hc,if_pos hc];omega
  ·rw[if_neg hc,if_neg hc];omega
 obtain⟨k1,k2,k3,k4,k5,k6,k7⟩:=hlohi
 have hmid1:a<mid:=EE
 have hmid2:mid<b:=EE
 have e9:((a:Int)+(b:Int))/2=(mid:Int):=EE
 have e10:(mid:Int)+(m:Int)=(nn:Int):=EE
 have e11:(nn:Int)-1=(pp:Int):=EE
 have HNN:=AA (And.intro hnn (And.intro hpp hmid))
 have HK:=AA (And.intro k6 k7)
 have hnb:nn≤N+N:=EE
 have hE:Hid (((a:Int)+(b:Int))/2=(mid:Int)∧(mid:Int)+(m:Int)=(nn:Int)∧(nn:Int)-1=(pp:Int)):=⟨e9,e10,e11⟩
 have hpn:pp<nn:=EE
 have hnp:nn≤pp+1:=EE
 have hLH:Hid ((mid<m→(nn:Int)-(b:Int)=(lo:Int)∧hi=mid)∧(¬mid<m→lo=a∧hi=m)):=by
  refine⟨fun hc=> ?_,fun hc=> ?_⟩
  ·rw[hlo,hhi,if_pos hc,if_pos hc];omega
  ·rw[hlo,hhi,if_neg hc,if_neg hc];exact⟨rfl,rfl⟩
 have hmn:m≤nn:=EE
 have hmidn:mid≤nn:=EE
 clear h hlen ha hm hb hu hv su sv hq hl ih hf hmid hnn hpp hlo hhi k6 k7 e9 e10 e11
 go_enter Tryz.func244,Tryz.ntmps244
 go_upto_if 140 with(fail)
 rw[hE.out.1,hE.out.2.1]
 go_cut [20,21] (fun sv rv wx=>sv= .int .i64 (lo:Int)∧rv= .int .i64 (hi:Int)∧wx=w)
 case first=>
  by_cases hc:mid<m
  ·obtain⟨q1,q2⟩:=hLH.out.1 hc
   have g2:decide ((mid:Int)<(m:Int))=true:=AG EE
   have g2':decide (mid<m)=true:=AG hc
   exact C1K
  ·obtain⟨q1,q2⟩:=hLH.out.2 hc
   have g2:decide ((mid:Int)<(m:Int))=false:=AC EE
   have g2':decide (mid<m)=false:=AC hc
   exact C1K
 case rest=>
 obtain⟨rfl,rfl,hwx⟩:=hcut
 clear hLH
 go_wp2_with fail
 rw[hE.out.2.2]
 clear hE
 have HWX:=AA hwx
 clear hwx
 go_loopw [20,21] (fun iv jv wr=>∃i j:Nat,iv= .int .i64 (i:Int)∧jv= .int .i64 (j:Int)∧lo≤i∧i≤j∧j≤hi∧RowT wr base ad c N l∧Hid ((∀x y,lo<i→l[i-1]? =some x→l[nn-i]? =some y→leT x y=true)∧(∀x y,j<hi→l[j]? =some x→l[pp-j]? =some y→leT x y=false))∧w.grownBy wr (some ad.block)) (fun iv jv _=>(intOf jv).toNat-(intOf iv).toNat)
 case atStart=>exact⟨lo,hi,rfl,rfl,AD _,k1,AD _,HROW.out,⟨fun _ _ h=>absurd h EE,fun _ _ h=>absurd h EE⟩,A0U _ _⟩
 case round=>
  clear HROW HWX
  obtain⟨i,j,rfl,rfl,hli,hij,hjh,hrow,HB,hgb⟩:=hrel
  by_cases hlt:i<j
  ·obtain⟨q,hq⟩:∃q,q=(i+j)/2:=⟨_,rfl⟩
   obtain⟨z,hz⟩:∃z,z+q=pp:=⟨pp-q,by omega⟩
   have hq1:i≤q:=EE
   have hq2:q<j:=EE
   have hzN:z<N:=EE
   have hqN:q<N:=EE
   have e9:((i:Int)+(j:Int))/2=(q:Int):=EE
   have e5:(pp:Int)-(q:Int)=(z:Int):=EE
   have HE9:=AA e9
   have HZ:Hid (pp-q=z∧nn-(q+1)=z):=by unfold Hid;omega
   obtain⟨x,hx⟩:∃x,l[q]? =some x:=⟨_,AL (by have:=hrow.len;omega)⟩
   obtain⟨y,hy⟩:∃y,l[z]? =some y:=⟨_,AL (by have:=hrow.len;omega)⟩
   have HY:=AA hy
   have HX:=AA hx
   clear hq e9 hz
   go_wp2_with fail
   rw[HE9.out]
   obtain⟨ci0,ci1⟩:=A1R hrow hy
   have ci0r:=BW ci0
   have ci1r:=BW ci1
   obtain⟨cj0,cj1⟩:=A1R hrow hx
   have cj0r:=BW cj0
   have cj1r:=BW cj1
   have HC:=AA (A6A y x (HQ.out y (Bx hy)) (HQ.out x (Bx hx)))
   have HR:=AA hrow
   clear hrow hy hx
   by_cases hc:cvT y x<0
   ·have g3:decide (cvT y x<0)=true:=AG hc
    refine wp_region_quiet_below EG EG ?_
    repeat(go_big_quiet_step ((go_at_call 195;exact BS (HC.out _))))
    refine wpQuiet_nil ?_
    intro w5 hb50
    have hb5:=A0B hb50
    clear hb50
    clear e5
    go_wp2_with fail
    go_roundw
    case rel=>exact⟨i,q,rfl,rfl,hli,hq1,by omega,HR.out.below hb5,⟨HB.out.1,fun x' y' _ hx hy=>by rw[HX.out] at hx;rw[HZ.out.1,HY.out] at hy;cases hx;cases hy;exact A7H.2 hc⟩,A2N hgb hb5⟩
    case measure=>simp[intOf];omega
   ·have g3:decide (cvT y x<0)=false:=AC hc
    refine wp_region_quiet_below EG EG ?_
    repeat(go_big_quiet_step ((go_at_call 195;exact BS (HC.out _))))
    refine wpQuiet_nil ?_
    intro w5 hb50
    have hb5:=A0B hb50
    clear hb50
    clear e5
    go_wp2_with fail
    go_roundw
    case rel=>exact⟨q+1,j,by go_num,rfl,by omega,by omega,hjh,HR.out.below hb5,⟨fun x' y' _ hx hy=>by rw[show q+1-1=q by omega,HX.out] at hx;rw[HZ.out.2,HY.out] at hy;cases hx;cases hy;exact A4b.2 hc,HB.out.2⟩,A2N hgb hb5⟩
    case measure=>simp[intOf];omega
  ·obtain rfl:i=j:=EE
   have g1:decide ((i:Int)<(i:Int))=false:=AC EE
   have g1':decide (i<i)=false:=AC hlt
   obtain⟨h1,h2,h3,h4⟩:=HH.out
   obtain⟨n1,n2,n3⟩:=HNN.out
   obtain⟨en,hen⟩:∃en,en+i=nn:=⟨nn-i,by omega⟩
   have he1:m≤en:=EE
   have he2:en≤b:=EE
   have hai:a≤i:=EE
   have him:i≤m:=EE
   have hime:i≤mid:=EE
   have hmide:mid≤en:=EE
   have hrow0:=hrow
   rw[HL.out] at hrow0
   obtain⟨u1,u2,v1,v2,eu,ev,l1,l2,s1,s2,s3,s4,hmg⟩:=B6o (le:=leT) tpT (P:=A) (u:=u) (v:=v) (C:=C) h1 h2 h3 HS.out.1 HS.out.2 hai him he1 he2 (fun x y ha hb hx hy=>by
    rw[←HL.out] at hx hy
    refine HB.out.1 x y (by have:=HK.out;omega) hx ?_
    rw[show nn-i=en by omega];exact hy) (fun x y ha hb hx hy=>by
    rw[←HL.out] at hx hy
    refine HB.out.2 x y (by have:=HK.out;omega) hx ?_
    rw[show pp-i=en-1 by omega];exact hy)
   have l3:u2.length=m-i:=by have:=congrArg List.length eu;rw[AJ] at this;omega
   have l4:v2.length=b-en:=by have:=congrArg List.length ev;rw[AJ] at this;omega
   have hq0:=HQ.out
   rw[HL.out] at hq0
   have hrow1:RowT wr base ad c N (A++(u1++(u2++(v1++(v2++C))))):=by
    have e:A++(u++(v++C))=A++(u1++(u2++(v1++(v2++C)))):=by rw[eu,ev];simp only[AN]
    rw[←e];exact hrow0
   have hq1:∀z∈A++(u1++(u2++(v1++(v2++C)))),QT z:=by
    have e:A++(u++(v++C))=A++(u1++(u2++(v1++(v2++C)))):=by rw[eu,ev];simp only[AN]
    rw[←e];exact hq0
   have e6:(nn:Int)-(i:Int)=(en:Int):=EE
   have HE6:=AA e6
   have HR1:=AA hrow1
   have HQ1:=AA hq1
   have HLN:=AA (And.intro h1 (And.intro l1 (And.intro l2 (And.intro l3 l4))))
   have HMG:=AA hmg
   have HSS:=AA (And.intro s1 (And.intro s2 (And.intro s3 s4)))
   have hsum:u.length+v.length=u1.length+u2.length+v1.length+v2.length:=by rw[eu,ev,AJ,AJ];omega
   have HSUM:=AA (And.intro h4 hsum)
   have HMID:Hid (mid+m=en+i):=by unfold Hid;omega
   clear HB hrow hrow0 hrow1 hq0 hq1 h1 h2 h3 h4 n1 n2 n3 l1 l2 l3 l4 s1 s2 s3 s4 hmg hsum eu ev hen HS HQ HH HL HNN HK k1 k2 k3 k4 k5 hli hjh
   have HQM:Hid (∀z,z∈A∨z∈u1∨z∈u2∨z∈v1∨z∈v2∨z∈C→QT z):=fun z hz=>HQ1.out z (by
    simp only[Af]
    exact hz)
   have HR1':Hid (RowT wr base ad c N ((A++u1)++(u2++(v1++(v2++C))))):=by rw[Hid,AN];exact HR1.out
   clear HQ1 HR1 HE6
   by_cases h5:i<m
   ·have g5:decide ((i:Int)<(m:Int))=true:=AG EE
    have g5':decide (i<m)=true:=AG h5
    by_cases h6:m<en
    ·have g6:decide ((m:Int)<(en:Int))=true:=AG EE
     have g6':decide (m<en)=true:=AG h6
     by_cases h7:a<i
     ·have g7:decide ((a:Int)<(i:Int))=true:=AG EE
      have g7':decide (a<i)=true:=AG h7
      by_cases h8:i<mid
      ·have g8:decide ((i:Int)<(mid:Int))=true:=AG EE
       have g8':decide (i<mid)=true:=AG h8
       by_cases h9:mid<en
       ·have g9:decide ((mid:Int)<(en:Int))=true:=AG EE
        have g9':decide (mid<en)=true:=AG h9
        by_cases h10:en<b
        ·have g10:decide ((en:Int)<(b:Int))=true:=AG EE
         have g10':decide (en<b)=true:=AG h10
         obtain⟨h1,l1,l2,l3,l4⟩:=HLN.out
         obtain⟨s1,s2,s3,s4⟩:=HSS.out
         have hme:=HMID.out
         have hsm:=HSUM.out
         have HC1:=AA (A2g (A++u1) u2 v1 (v2++C) ad c N base i m en (.func (.func 195) #[] #[]) wr HR1'.out hN (by rw[AJ];omega) EE EE EE EE)
         have HA2:=AA (fun(W:World) (hW:RowT W base ad c N ((A++u1)++(v1++(u2++(v2++C)))))=>(show RowT W base ad c N (A++(u1++(v1++(u2++(v2++C))))) by rw[←AN];exact hW))
         have HC2:=AA (fun(W:World) (hW:RowT W base ad c N (A++(u1++(v1++(u2++(v2++C))))))=>HIH.out A u1 v1 (u2++(v2++C)) ad c N base a i mid W hW hN h1 EE EE EE EE s1 s3 (fun z hz=>HQM.out z (by simp only[Af] at hz;rcases hz with h|h|h|h|h|h<;>simp[h])) EE)
         have HA3:=AA (fun(W:World) (hW:RowT W base ad c N (A++(u1.merge v1 leT++(u2++(v2++C)))))=>(show RowT W base ad c N ((A++u1.merge v1 leT)++(u2++(v2++C))) by rw[AN];exact hW))
         have HC3:=AA (fun(W:World) (hW:RowT W base ad c N ((A++u1.merge v1 leT)++(u2++(v2++C))))=>HIH.out (A++u1.merge v1 leT) u2 v2 C ad c N base mid en b W hW hN (by rw[AJ,A5K];omega) EE EE EE EE s2 s4 (fun z hz=>HQM.out z (by simp only[Af,A4o] at hz;rcases hz with(h|h|h)|h|h|h<;>simp[h])) EE)
         have HFN:=AA (fun(W:World) (hW:RowT W base ad c N ((A++u1.merge v1 leT)++(u2.merge v2 leT++C)))=>(show RowT W base ad c N (A++(u.merge v leT++C)) by rw[HMG.out,AN];rw[AN] at hW;exact hW))
         clear h1 l1 l2 l3 l4 s1 s2 s3 s4 hme hsm HLN HSS HMID HSUM HQM HMG HR1' HIH
         go_wp2_with fail
         refine HC1.out.mono ?_
         rintro e w2 ⟨rfl,hr2,hg2⟩
         have HR2:=AA hr2
         have hgb:=A0M hgb hg2
         clear hr2 hg2
         go_wp2_with fail
         have HR3:=AA (HA2.out _ HR2.out)
         refine(HC2.out _ HR3.out).mono ?_
         rintro e w3 ⟨rfl,hr3,hg3⟩
         have HR4:=AA hr3
         have hgb:=A0M hgb hg3
         clear hr3 hg3
         go_wp2_with fail
         exact C0I
        ·have g10:decide ((en:Int)<(b:Int))=false:=AC EE
         have g10':decide (en<b)=false:=AC h10
         obtain⟨h1,l1,l2,l3,l4⟩:=HLN.out
         obtain⟨s1,s2,s3,s4⟩:=HSS.out
         have hme:=HMID.out
         have hsm:=HSUM.out
         have HC1:=AA (A2g (A++u1) u2 v1 (v2++C) ad c N base i m en (.func (.func 195) #[] #[]) wr HR1'.out hN (by rw[AJ];omega) EE EE EE EE)
         have HA2:=AA (fun(W:World) (hW:RowT W base ad c N ((A++u1)++(v1++(u2++(v2++C)))))=>(show RowT W base ad c N (A++(u1++(v1++(u2++(v2++C))))) by rw[←AN];exact hW))
         have HC2:=AA (fun(W:World) (hW:RowT W base ad c N (A++(u1++(v1++(u2++(v2++C))))))=>HIH.out A u1 v1 (u2++(v2++C)) ad c N base a i mid W hW hN h1 EE EE EE EE s1 s3 (fun z hz=>HQM.out z (by simp only[Af] at hz;rcases hz with h|h|h|h|h|h<;>simp[h])) EE)
         have HA3:=AA (fun(W:World) (hW:RowT W base ad c N (A++(u1.merge v1 leT++(u2++(v2++C)))))=>(show RowT W base ad c N ((A++u1.merge v1 leT)++(u2++(v2++C))) by rw[AN];exact hW))
         have HC3:=AA (fun(W:World) (hW:RowT W base ad c N ((A++u1.merge v1 leT)++(u2++(v2++C))))=>(show RowT W base ad c N ((A++u1.merge v1 leT)++(u2.merge v2 leT++C)) by
          have e:v2=[]:=AU EE
          rw[e] at hW⊢
          rw[BG]
          exact hW))
         exact C2W
       ·have g9:decide ((mid:Int)<(en:Int))=false:=AC EE
        have g9':decide (mid<en)=false:=AC h9
        obtain⟨h1,l1,l2,l3,l4⟩:=HLN.out
        obtain⟨s1,s2,s3,s4⟩:=HSS.out
        have hme:=HMID.out
        have hsm:=HSUM.out
        have HC1:=AA (A2g (A++u1) u2 v1 (v2++C) ad c N base i m en (.func (.func 195) #[] #[]) wr HR1'.out hN (by rw[AJ];omega) EE EE EE EE)
        have HA2:=AA (fun(W:World) (hW:RowT W base ad c N ((A++u1)++(v1++(u2++(v2++C)))))=>(show RowT W base ad c N (A++(u1++(v1++(u2++(v2++C))))) by rw[←AN];exact hW))
        have HC2:=AA (fun(W:World) (hW:RowT W base ad c N (A++(u1++(v1++(u2++(v2++C))))))=>HIH.out A u1 v1 (u2++(v2++C)) ad c N base a i mid W hW hN h1 EE EE EE EE s1 s3 (fun z hz=>HQM.out z (by simp only[Af] at hz;rcases hz with h|h|h|h|h|h<;>simp[h])) EE)
        have HA3:=AA (fun(W:World) (hW:RowT W base ad c N (A++(u1.merge v1 leT++(u2++(v2++C)))))=>(show RowT W base ad c N ((A++u1.merge v1 leT)++(u2++(v2++C))) by rw[AN];exact hW))
        have HC3:=AA (fun(W:World) (hW:RowT W base ad c N ((A++u1.merge v1 leT)++(u2++(v2++C))))=>(show RowT W base ad c N ((A++u1.merge v1 leT)++(u2.merge v2 leT++C)) by
         have e:u2=[]:=AU EE
         rw[e] at hW⊢
         rw[BN]
         exact hW))
        exact C2W
      ·have g8:decide ((i:Int)<(mid:Int))=false:=AC EE
       have g8':decide (i<mid)=false:=AC h8
       by_cases h9:mid<en
       ·have g9:decide ((mid:Int)<(en:Int))=true:=AG EE
        have g9':decide (mid<en)=true:=AG h9
        by_cases h10:en<b
        ·have g10:decide ((en:Int)<(b:Int))=true:=AG EE
         have g10':decide (en<b)=true:=AG h10
         obtain⟨h1,l1,l2,l3,l4⟩:=HLN.out
         obtain⟨s1,s2,s3,s4⟩:=HSS.out
         have hme:=HMID.out
         have hsm:=HSUM.out
         have HC1:=AA (A2g (A++u1) u2 v1 (v2++C) ad c N base i m en (.func (.func 195) #[] #[]) wr HR1'.out hN (by rw[AJ];omega) EE EE EE EE)
         have HA2:=AA (fun(W:World) (hW:RowT W base ad c N ((A++u1)++(v1++(u2++(v2++C)))))=>(show RowT W base ad c N (A++(u1++(v1++(u2++(v2++C))))) by rw[←AN];exact hW))
         have HC2:=AA (fun(W:World) (hW:RowT W base ad c N (A++(u1++(v1++(u2++(v2++C))))))=>(show RowT W base ad c N (A++(u1.merge v1 leT++(u2++(v2++C)))) by
          have e:v1=[]:=AU EE
          rw[e] at hW⊢
          rw[BG]
          exact hW))
         exact C2s
        ·have g10:decide ((en:Int)<(b:Int))=false:=AC EE
         have g10':decide (en<b)=false:=AC h10
         obtain⟨h1,l1,l2,l3,l4⟩:=HLN.out
         obtain⟨s1,s2,s3,s4⟩:=HSS.out
         have hme:=HMID.out
         have hsm:=HSUM.out
         have HC1:=AA (A2g (A++u1) u2 v1 (v2++C) ad c N base i m en (.func (.func 195) #[] #[]) wr HR1'.out hN (by rw[AJ];omega) EE EE EE EE)
         have HA2:=AA (fun(W:World) (hW:RowT W base ad c N ((A++u1)++(v1++(u2++(v2++C)))))=>(show RowT W base ad c N (A++(u1++(v1++(u2++(v2++C))))) by rw[←AN];exact hW))
         have HC2:=AA (fun(W:World) (hW:RowT W base ad c N (A++(u1++(v1++(u2++(v2++C))))))=>(show RowT W base ad c N (A++(u1.merge v1 leT++(u2++(v2++C)))) by
          have e:v1=[]:=AU EE
          rw[e] at hW⊢
          rw[BG]
          exact hW))
         exact C2P
       ·have g9:decide ((mid:Int)<(en:Int))=false:=AC EE
        have g9':decide (mid<en)=false:=AC h9
        obtain⟨h1,l1,l2,l3,l4⟩:=HLN.out
        obtain⟨s1,s2,s3,s4⟩:=HSS.out
        have hme:=HMID.out
        have hsm:=HSUM.out
        have HC1:=AA (A2g (A++u1) u2 v1 (v2++C) ad c N base i m en (.func (.func 195) #[] #[]) wr HR1'.out hN (by rw[AJ];omega) EE EE EE EE)
        have HA2:=AA (fun(W:World) (hW:RowT W base ad c N ((A++u1)++(v1++(u2++(v2++C)))))=>(show RowT W base ad c N (A++(u1++(v1++(u2++(v2++C))))) by rw[←AN];exact hW))
        have HC2:=AA (fun(W:World) (hW:RowT W base ad c N (A++(u1++(v1++(u2++(v2++C))))))=>(show RowT W base ad c N (A++(u1.merge v1 leT++(u2++(v2++C)))) by
         have e:v1=[]:=AU EE
         rw[e] at hW⊢
         rw[BG]
         exact hW))
        exact C2R
     ·have g7:decide ((a:Int)<(i:Int))=false:=AC EE
      have g7':decide (a<i)=false:=AC h7
      by_cases h9:mid<en
      ·have g9:decide ((mid:Int)<(en:Int))=true:=AG EE
       have g9':decide (mid<en)=true:=AG h9
       by_cases h10:en<b
       ·have g10:decide ((en:Int)<(b:Int))=true:=AG EE
        have g10':decide (en<b)=true:=AG h10
        obtain⟨h1,l1,l2,l3,l4⟩:=HLN.out
        obtain⟨s1,s2,s3,s4⟩:=HSS.out
        have hme:=HMID.out
        have hsm:=HSUM.out
        have HC1:=AA (A2g (A++u1) u2 v1 (v2++C) ad c N base i m en (.func (.func 195) #[] #[]) wr HR1'.out hN (by rw[AJ];omega) EE EE EE EE)
        have HA2:=AA (fun(W:World) (hW:RowT W base ad c N ((A++u1)++(v1++(u2++(v2++C)))))=>(show RowT W base ad c N (A++(u1++(v1++(u2++(v2++C))))) by rw[←AN];exact hW))
        have HC2:=AA (fun(W:World) (hW:RowT W base ad c N (A++(u1++(v1++(u2++(v2++C))))))=>(show RowT W base ad c N (A++(u1.merge v1 leT++(u2++(v2++C)))) by
         have e:u1=[]:=AU EE
         rw[e] at hW⊢
         rw[BN]
         exact hW))
        exact C2s
       ·have g10:decide ((en:Int)<(b:Int))=false:=AC EE
        have g10':decide (en<b)=false:=AC h10
        obtain⟨h1,l1,l2,l3,l4⟩:=HLN.out
        obtain⟨s1,s2,s3,s4⟩:=HSS.out
        have hme:=HMID.out
        have hsm:=HSUM.out
        have HC1:=AA (A2g (A++u1) u2 v1 (v2++C) ad c N base i m en (.func (.func 195) #[] #[]) wr HR1'.out hN (by rw[AJ];omega) EE EE EE EE)
        have HA2:=AA (fun(W:World) (hW:RowT W base ad c N ((A++u1)++(v1++(u2++(v2++C)))))=>(show RowT W base ad c N (A++(u1++(v1++(u2++(v2++C))))) by rw[←AN];exact hW))
        have HC2:=AA (fun(W:World) (hW:RowT W base ad c N (A++(u1++(v1++(u2++(v2++C))))))=>(show RowT W base ad c N (A++(u1.merge v1 leT++(u2++(v2++C)))) by
         have e:u1=[]:=AU EE
         rw[e] at hW⊢
         rw[BN]
         exact hW))
        exact C2P
      ·have g9:decide ((mid:Int)<(en:Int))=false:=AC EE
       have g9':decide (mid<en)=false:=AC h9
       obtain⟨h1,l1,l2,l3,l4⟩:=HLN.out
       obtain⟨s1,s2,s3,s4⟩:=HSS.out
       have hme:=HMID.out
       have hsm:=HSUM.out
       have HC1:=AA (A2g (A++u1) u2 v1 (v2++C) ad c N base i m en (.func (.func 195) #[] #[]) wr HR1'.out hN (by rw[AJ];omega) EE EE EE EE)
       have HA2:=AA (fun(W:World) (hW:RowT W base ad c N ((A++u1)++(v1++(u2++(v2++C)))))=>(show RowT W base ad c N (A++(u1++(v1++(u2++(v2++C))))) by rw[←AN];exact hW))
       have HC2:=AA (fun(W:World) (hW:RowT W base ad c N (A++(u1++(v1++(u2++(v2++C))))))=>(show RowT W base ad c N (A++(u1.merge v1 leT++(u2++(v2++C)))) by
        have e:u1=[]:=AU EE
        rw[e] at hW⊢
        rw[BN]
        exact hW))
       exact C2R
    ·have g6:decide ((m:Int)<(en:Int))=false:=AC EE
     have g6':decide (m<en)=false:=AC h6
     by_cases h7:a<i
     ·have g7:decide ((a:Int)<(i:Int))=true:=AG EE
      have g7':decide (a<i)=true:=AG h7
      by_cases h8:i<mid
      ·have g8:decide ((i:Int)<(mid:Int))=true:=AG EE
       have g8':decide (i<mid)=true:=AG h8
       by_cases h9:mid<en
       ·have g9:decide ((mid:Int)<(en:Int))=true:=AG EE
        have g9':decide (mid<en)=true:=AG h9
        by_cases h10:en<b
        ·have g10:decide ((en:Int)<(b:Int))=true:=AG EE
         have g10':decide (en<b)=true:=AG h10
         obtain⟨h1,l1,l2,l3,l4⟩:=HLN.out
         obtain⟨s1,s2,s3,s4⟩:=HSS.out
         have hme:=HMID.out
         have hsm:=HSUM.out
         have HR2:Hid (RowT wr base ad c N ((A++u1)++(v1++(u2++(v2++C))))):=by
          exact C0R
         exact C0F
        ·have g10:decide ((en:Int)<(b:Int))=false:=AC EE
         have g10':decide (en<b)=false:=AC h10
         obtain⟨h1,l1,l2,l3,l4⟩:=HLN.out
         obtain⟨s1,s2,s3,s4⟩:=HSS.out
         have hme:=HMID.out
         have hsm:=HSUM.out
         have HR2:Hid (RowT wr base ad c N ((A++u1)++(v1++(u2++(v2++C))))):=by
          exact C0R
         exact C2n
       ·have g9:decide ((mid:Int)<(en:Int))=false:=AC EE
        have g9':decide (mid<en)=false:=AC h9
        obtain⟨h1,l1,l2,l3,l4⟩:=HLN.out
        obtain⟨s1,s2,s3,s4⟩:=HSS.out
        have hme:=HMID.out
        have hsm:=HSUM.out
        have HR2:Hid (RowT wr base ad c N ((A++u1)++(v1++(u2++(v2++C))))):=by
         exact C0R
        exact C2o
      ·have g8:decide ((i:Int)<(mid:Int))=false:=AC EE
       have g8':decide (i<mid)=false:=AC h8
       by_cases h9:mid<en
       ·have g9:decide ((mid:Int)<(en:Int))=true:=AG EE
        have g9':decide (mid<en)=true:=AG h9
        by_cases h10:en<b
        ·have g10:decide ((en:Int)<(b:Int))=true:=AG EE
         have g10':decide (en<b)=true:=AG h10
         obtain⟨h1,l1,l2,l3,l4⟩:=HLN.out
         obtain⟨s1,s2,s3,s4⟩:=HSS.out
         have hme:=HMID.out
         have hsm:=HSUM.out
         have HR2:Hid (RowT wr base ad c N ((A++u1)++(v1++(u2++(v2++C))))):=by
          exact C0R
         exact C2w
        ·have g10:decide ((en:Int)<(b:Int))=false:=AC EE
         have g10':decide (en<b)=false:=AC h10
         obtain⟨h1,l1,l2,l3,l4⟩:=HLN.out
         obtain⟨s1,s2,s3,s4⟩:=HSS.out
         have hme:=HMID.out
         have hsm:=HSUM.out
         have HR2:Hid (RowT wr base ad c N ((A++u1)++(v1++(u2++(v2++C))))):=by
          exact C0R
         exact C2S
       ·have g9:decide ((mid:Int)<(en:Int))=false:=AC EE
        have g9':decide (mid<en)=false:=AC h9
        obtain⟨h1,l1,l2,l3,l4⟩:=HLN.out
        obtain⟨s1,s2,s3,s4⟩:=HSS.out
        have hme:=HMID.out
        have hsm:=HSUM.out
        have HR2:Hid (RowT wr base ad c N ((A++u1)++(v1++(u2++(v2++C))))):=by
         exact C0R
        exact C2T
     ·have g7:decide ((a:Int)<(i:Int))=false:=AC EE
      have g7':decide (a<i)=false:=AC h7
      by_cases h9:mid<en
      ·have g9:decide ((mid:Int)<(en:Int))=true:=AG EE
       have g9':decide (mid<en)=true:=AG h9
       by_cases h10:en<b
       ·have g10:decide ((en:Int)<(b:Int))=true:=AG EE
        have g10':decide (en<b)=true:=AG h10
        obtain⟨h1,l1,l2,l3,l4⟩:=HLN.out
        obtain⟨s1,s2,s3,s4⟩:=HSS.out
        have hme:=HMID.out
        have hsm:=HSUM.out
        have HR2:Hid (RowT wr base ad c N ((A++u1)++(v1++(u2++(v2++C))))):=by
         exact C0R
        exact C2x
       ·have g10:decide ((en:Int)<(b:Int))=false:=AC EE
        have g10':decide (en<b)=false:=AC h10
        obtain⟨h1,l1,l2,l3,l4⟩:=HLN.out
        obtain⟨s1,s2,s3,s4⟩:=HSS.out
        have hme:=HMID.out
        have hsm:=HSUM.out
        have HR2:Hid (RowT wr base ad c N ((A++u1)++(v1++(u2++(v2++C))))):=by
         exact C0R
        exact C2U
      ·have g9:decide ((mid:Int)<(en:Int))=false:=AC EE
       have g9':decide (mid<en)=false:=AC h9
       obtain⟨h1,l1,l2,l3,l4⟩:=HLN.out
       obtain⟨s1,s2,s3,s4⟩:=HSS.out
       have hme:=HMID.out
       have hsm:=HSUM.out
       have HR2:Hid (RowT wr base ad c N ((A++u1)++(v1++(u2++(v2++C))))):=by
        exact C0R
       exact C2V
   ·have g5:decide ((i:Int)<(m:Int))=false:=AC EE
    have g5':decide (i<m)=false:=AC h5
    by_cases h7:a<i
    ·have g7:decide ((a:Int)<(i:Int))=true:=AG EE
     have g7':decide (a<i)=true:=AG h7
     by_cases h8:i<mid
     ·have g8:decide ((i:Int)<(mid:Int))=true:=AG EE
      have g8':decide (i<mid)=true:=AG h8
      by_cases h9:mid<en
      ·have g9:decide ((mid:Int)<(en:Int))=true:=AG EE
       have g9':decide (mid<en)=true:=AG h9
       by_cases h10:en<b
       ·have g10:decide ((en:Int)<(b:Int))=true:=AG EE
        have g10':decide (en<b)=true:=AG h10
        obtain⟨h1,l1,l2,l3,l4⟩:=HLN.out
        obtain⟨s1,s2,s3,s4⟩:=HSS.out
        have hme:=HMID.out
        have hsm:=HSUM.out
        have HR2:Hid (RowT wr base ad c N ((A++u1)++(v1++(u2++(v2++C))))):=by
         exact C0Q
        exact C0F
       ·have g10:decide ((en:Int)<(b:Int))=false:=AC EE
        have g10':decide (en<b)=false:=AC h10
        obtain⟨h1,l1,l2,l3,l4⟩:=HLN.out
        obtain⟨s1,s2,s3,s4⟩:=HSS.out
        have hme:=HMID.out
        have hsm:=HSUM.out
        have HR2:Hid (RowT wr base ad c N ((A++u1)++(v1++(u2++(v2++C))))):=by
         exact C0Q
        exact C2n
      ·have g9:decide ((mid:Int)<(en:Int))=false:=AC EE
       have g9':decide (mid<en)=false:=AC h9
       obtain⟨h1,l1,l2,l3,l4⟩:=HLN.out
       obtain⟨s1,s2,s3,s4⟩:=HSS.out
       have hme:=HMID.out
       have hsm:=HSUM.out
       have HR2:Hid (RowT wr base ad c N ((A++u1)++(v1++(u2++(v2++C))))):=by
        exact C0Q
       exact C2o
     ·have g8:decide ((i:Int)<(mid:Int))=false:=AC EE
      have g8':decide (i<mid)=false:=AC h8
      by_cases h9:mid<en
      ·have g9:decide ((mid:Int)<(en:Int))=true:=AG EE
       have g9':decide (mid<en)=true:=AG h9
       by_cases h10:en<b
       ·have g10:decide ((en:Int)<(b:Int))=true:=AG EE
        have g10':decide (en<b)=true:=AG h10
        obtain⟨h1,l1,l2,l3,l4⟩:=HLN.out
        obtain⟨s1,s2,s3,s4⟩:=HSS.out
        have hme:=HMID.out
        have hsm:=HSUM.out
        have HR2:Hid (RowT wr base ad c N ((A++u1)++(v1++(u2++(v2++C))))):=by
         exact C0Q
        exact C2w
       ·have g10:decide ((en:Int)<(b:Int))=false:=AC EE
        have g10':decide (en<b)=false:=AC h10
        obtain⟨h1,l1,l2,l3,l4⟩:=HLN.out
        obtain⟨s1,s2,s3,s4⟩:=HSS.out
        have hme:=HMID.out
        have hsm:=HSUM.out
        have HR2:Hid (RowT wr base ad c N ((A++u1)++(v1++(u2++(v2++C))))):=by
         exact C0Q
        exact C2S
      ·have g9:decide ((mid:Int)<(en:Int))=false:=AC EE
       have g9':decide (mid<en)=false:=AC h9
       obtain⟨h1,l1,l2,l3,l4⟩:=HLN.out
       obtain⟨s1,s2,s3,s4⟩:=HSS.out
       have hme:=HMID.out
       have hsm:=HSUM.out
       have HR2:Hid (RowT wr base ad c N ((A++u1)++(v1++(u2++(v2++C))))):=by
        exact C0Q
       exact C2T
    ·have g7:decide ((a:Int)<(i:Int))=false:=AC EE
     have g7':decide (a<i)=false:=AC h7
     by_cases h9:mid<en
     ·have g9:decide ((mid:Int)<(en:Int))=true:=AG EE
      have g9':decide (mid<en)=true:=AG h9
      by_cases h10:en<b
      ·have g10:decide ((en:Int)<(b:Int))=true:=AG EE
       have g10':decide (en<b)=true:=AG h10
       obtain⟨h1,l1,l2,l3,l4⟩:=HLN.out
       obtain⟨s1,s2,s3,s4⟩:=HSS.out
       have hme:=HMID.out
       have hsm:=HSUM.out
       have HR2:Hid (RowT wr base ad c N ((A++u1)++(v1++(u2++(v2++C))))):=by
        exact C0Q
       exact C2x
      ·have g10:decide ((en:Int)<(b:Int))=false:=AC EE
       have g10':decide (en<b)=false:=AC h10
       obtain⟨h1,l1,l2,l3,l4⟩:=HLN.out
       obtain⟨s1,s2,s3,s4⟩:=HSS.out
       have hme:=HMID.out
       have hsm:=HSUM.out
       have HR2:Hid (RowT wr base ad c N ((A++u1)++(v1++(u2++(v2++C))))):=by
        exact C0Q
       exact C2U
     ·have g9:decide ((mid:Int)<(en:Int))=false:=AC EE
      have g9':decide (mid<en)=false:=AC h9
      obtain⟨h1,l1,l2,l3,l4⟩:=HLN.out
      obtain⟨s1,s2,s3,s4⟩:=HSS.out
      have hme:=HMID.out
      have hsm:=HSUM.out
      have HR2:Hid (RowT wr base ad c N ((A++u1)++(v1++(u2++(v2++C))))):=by
       exact C0Q
      exact C2V
theorem A4U:∀f,SymT f
 |0=>fun A u v C ad c N base a m b w h hN ha hm hb hu hv su sv hq hf=>absurd hf EE
 |f+1=>fun A u v C ad c N base a m b w h hN ha hm hb hu hv su sv hq hf=>by
  by_cases h1:u.length=1
  ·obtain⟨x,rfl⟩:=List.length_eq_one_iff.1 h1
   exact B6B A v C x ad c N base a m b w h hN ha (by simpa using hm) hb hv sv hq
  ·by_cases h2:v.length=1
   ·obtain⟨y,rfl⟩:=List.length_eq_one_iff.1 h2
    exact B6C A u C y ad c N base a m b w h hN ha hm (by simpa using hb) EE su hq
   ·exact B6D f (A4U f) A u v C ad c N base a m b w h hN ha hm hb EE EE su sv hq hf
end Go.Proofs.YtplgghjdidmcfaaGreatDoor
