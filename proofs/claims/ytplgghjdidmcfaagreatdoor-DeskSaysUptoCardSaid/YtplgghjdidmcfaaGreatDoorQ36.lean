/- Written anew, smaller, by a program of our own out of our texts. No condition of our own. -/
import Derived.Test.YtplgghjdidmcfaaGreatDoorQ35
import Derived.Defers
import Derived.Recover
import Derived.Lib.SplitLaws
import Derived.Test.YtplgghjdidmcfaaGreatDoorQ33
import Derived.Test.YtplgghjdidmcfaaGreatDoorQ26
import Derived.Test.YtplgghjdidmcfaaGreatDoorQ34
set_option maxRecDepth 100000
set_option maxHeartbeats 16000000
set_option linter.all false
namespace Go.Proofs.YtplgghjdidmcfaaGreatDoor
open Go.RowKit
theorem C0X{P:Prop}(h:P:=by
 unfold A2e
 rw[hdn,hs,if_neg EF,if_neg EF]
 refine⟨none, ?_⟩
 unfold dkD
 rw[hdn]
 exact h
 ):P:=h
theorem C0Z{P:Prop}(h:P:=by
 unfold A2e
 rw[hdn,hs,if_neg EF,if_pos rfl]
 exact h
 ):P:=h
theorem C1b{P:Prop}(h:P:=by
 unfold dkS
 rw[hdn,AC EE,Bool.false_and]
 ):P:=h
theorem C2C{P:Prop}(h:P:=by
 clear hne
 go_enter Tryz.func96,Tryz.ntmps96
 exact B9O
 ):P:=h
theorem B7c(x0:List UInt8)(b o n c gd:Nat)(w:World)(hn:0<n)(hk:(dkN x0).1=0)(c0:w.cell? ⟨b,o,none⟩=some (.string (S x0))):
 Calls Tryz.prog 96 #[.pointer (some ⟨gd,0,none⟩),.slice (some ⟨b,o,none⟩) n c] w fun e w'=>e= .returned (.tuple #[.string ⟨#[]⟩,.bool false])∧Below w.heap.size w w':=by
 have h1:x0≠kNew:=fun h=>by subst h;revert hk;decide
 have h2:x0≠A0u:=fun h=>by subst h;revert hk;decide
 have h3:x0≠kCut:=fun h=>by subst h;revert hk;decide
 have h4:x0≠A0V:=fun h=>by subst h;revert hk;decide
 have h5:x0≠A0Q:=fun h=>by subst h;revert hk;decide
 have h6:x0≠A0J:=fun h=>by subst h;revert hk;decide
 have h7:x0≠A0E:=fun h=>by subst h;revert hk;decide
 have h8:x0≠A0o:=fun h=>by subst h;revert hk;decide
 have h9:x0≠A0j:=fun h=>by subst h;revert hk;decide
 have h10:x0≠A0y:=fun h=>by subst h;revert hk;decide
 have h11:x0≠A0w:=fun h=>by subst h;revert hk;decide
 have q1:((S x0).toList==[110,101,119])=false:=by rw[eqk];exact AC h1
 have q2:((S x0).toList==[101,100,105,116])=false:=by rw[eqk];exact AC h2
 have q3:((S x0).toList==[99,117,116])=false:=by rw[eqk];exact AC h3
 have q4:((S x0).toList==[109,97,107,101])=false:=by rw[eqk];exact AC h4
 have q5:((S x0).toList==[117,110,100,111])=false:=by rw[eqk];exact AC h5
 have q6:((S x0).toList==[114,101,100,111])=false:=by rw[eqk];exact AC h6
 have q7:((S x0).toList==[115,97,118,101])=false:=by rw[eqk];exact AC h7
 have q8:((S x0).toList==[112,97,99,107])=false:=by rw[eqk];exact AC h8
 have q9:((S x0).toList==[99,114,97,115,104])=false:=by rw[eqk];exact AC h9
 have q10:((S x0).toList==[116,101,120,116])=false:=by rw[eqk];exact AC h10
 have q11:((S x0).toList==[100,114,111,112])=false:=by rw[eqk];exact AC h11
 clear hk h1 h2 h3 h4 h5 h6 h7 h8 h9 h10 h11
 generalize S x0=X0 at*
 go_enter Tryz.func96,Tryz.ntmps96
 go_wp2_with fail
 (apply bodyPost_ret;(simp[results,Tryz.results96,go_sem];rfl);rfl)
 exact⟨rfl,AI _ _⟩
theorem A9M(b o n c gd:Nat)(w:World)(hn:0<n)(hne:n≠3)(c0:w.cell? ⟨b,o,none⟩=some (.string (S kNew))):
 Calls Tryz.prog 96 #[.pointer (some ⟨gd,0,none⟩),.slice (some ⟨b,o,none⟩) n c] w fun e w'=>e= .panicked [{v:=refV 12,recovered:=false}]∧Below w.heap.size w w':=by
 have HMU:=AA (fun W=>A1f 12 EF W)
 have q1:((S kNew).toList==[110,101,119])=true:=by rw[eqk];decide
 have g1:((n:Int)==3)=false:=by rw[AH];omega
 have g1':((n:Int) !=3)=true:=by rw[bne,g1];rfl
 have g2:(n==3)=false:=by rw[AH];omega
 generalize S kNew=X0 at*
 exact C2C
theorem A9c(b o n c gd:Nat)(w:World)(hn:0<n)(hne:n≠5)(c0:w.cell? ⟨b,o,none⟩=some (.string (S A0u))):
 Calls Tryz.prog 96 #[.pointer (some ⟨gd,0,none⟩),.slice (some ⟨b,o,none⟩) n c] w fun e w'=>e= .panicked [{v:=refV 12,recovered:=false}]∧Below w.heap.size w w':=by
 have HMU:=AA (fun W=>A1f 12 EF W)
 have q1:((S A0u).toList==[110,101,119])=false:=by rw[eqk];decide
 have q2:((S A0u).toList==[101,100,105,116])=true:=by rw[eqk];decide
 have g1:((n:Int)==5)=false:=by rw[AH];omega
 have g1':((n:Int) !=5)=true:=by rw[bne,g1];rfl
 have g2:(n==5)=false:=by rw[AH];omega
 generalize S A0u=X0 at*
 exact C2C
theorem A9N(b o n c gd:Nat)(w:World)(hn:0<n)(hne:n≠4)(c0:w.cell? ⟨b,o,none⟩=some (.string (S kCut))):
 Calls Tryz.prog 96 #[.pointer (some ⟨gd,0,none⟩),.slice (some ⟨b,o,none⟩) n c] w fun e w'=>e= .panicked [{v:=refV 12,recovered:=false}]∧Below w.heap.size w w':=by
 have HMU:=AA (fun W=>A1f 12 EF W)
 have q1:((S kCut).toList==[110,101,119])=false:=by rw[eqk];decide
 have q2:((S kCut).toList==[101,100,105,116])=false:=by rw[eqk];decide
 have q3:((S kCut).toList==[99,117,116])=true:=by rw[eqk];decide
 have g1:((n:Int)==4)=false:=by rw[AH];omega
 have g1':((n:Int) !=4)=true:=by rw[bne,g1];rfl
 have g2:(n==4)=false:=by rw[AH];omega
 generalize S kCut=X0 at*
 exact C2C
theorem A9d(b o n c gd:Nat)(w:World)(hn:0<n)(hne:n≠3)(c0:w.cell? ⟨b,o,none⟩=some (.string (S A0V))):
 Calls Tryz.prog 96 #[.pointer (some ⟨gd,0,none⟩),.slice (some ⟨b,o,none⟩) n c] w fun e w'=>e= .panicked [{v:=refV 12,recovered:=false}]∧Below w.heap.size w w':=by
 have HMU:=AA (fun W=>A1f 12 EF W)
 have q1:((S A0V).toList==[110,101,119])=false:=by rw[eqk];decide
 have q2:((S A0V).toList==[101,100,105,116])=false:=by rw[eqk];decide
 have q3:((S A0V).toList==[99,117,116])=false:=by rw[eqk];decide
 have q4:((S A0V).toList==[109,97,107,101])=true:=by rw[eqk];decide
 have g1:((n:Int)==3)=false:=by rw[AH];omega
 have g1':((n:Int) !=3)=true:=by rw[bne,g1];rfl
 have g2:(n==3)=false:=by rw[AH];omega
 generalize S A0V=X0 at*
 exact C2C
theorem A9e(b o n c gd:Nat)(w:World)(hn:0<n)(hne:n≠2)(c0:w.cell? ⟨b,o,none⟩=some (.string (S A0Q))):
 Calls Tryz.prog 96 #[.pointer (some ⟨gd,0,none⟩),.slice (some ⟨b,o,none⟩) n c] w fun e w'=>e= .panicked [{v:=refV 12,recovered:=false}]∧Below w.heap.size w w':=by
 have HMU:=AA (fun W=>A1f 12 EF W)
 have q1:((S A0Q).toList==[110,101,119])=false:=by rw[eqk];decide
 have q2:((S A0Q).toList==[101,100,105,116])=false:=by rw[eqk];decide
 have q3:((S A0Q).toList==[99,117,116])=false:=by rw[eqk];decide
 have q4:((S A0Q).toList==[109,97,107,101])=false:=by rw[eqk];decide
 have q5:((S A0Q).toList==[117,110,100,111])=true:=by rw[eqk];decide
 have g1:((n:Int)==2)=false:=by rw[AH];omega
 have g1':((n:Int) !=2)=true:=by rw[bne,g1];rfl
 have g2:(n==2)=false:=by rw[AH];omega
 generalize S A0Q=X0 at*
 exact C2C
theorem A9f(b o n c gd:Nat)(w:World)(hn:0<n)(hne:n≠2)(c0:w.cell? ⟨b,o,none⟩=some (.string (S A0J))):
 Calls Tryz.prog 96 #[.pointer (some ⟨gd,0,none⟩),.slice (some ⟨b,o,none⟩) n c] w fun e w'=>e= .panicked [{v:=refV 12,recovered:=false}]∧Below w.heap.size w w':=by
 have HMU:=AA (fun W=>A1f 12 EF W)
 have q1:((S A0J).toList==[110,101,119])=false:=by rw[eqk];decide
 have q2:((S A0J).toList==[101,100,105,116])=false:=by rw[eqk];decide
 have q3:((S A0J).toList==[99,117,116])=false:=by rw[eqk];decide
 have q4:((S A0J).toList==[109,97,107,101])=false:=by rw[eqk];decide
 have q5:((S A0J).toList==[117,110,100,111])=false:=by rw[eqk];decide
 have q6:((S A0J).toList==[114,101,100,111])=true:=by rw[eqk];decide
 have g1:((n:Int)==2)=false:=by rw[AH];omega
 have g1':((n:Int) !=2)=true:=by rw[bne,g1];rfl
 have g2:(n==2)=false:=by rw[AH];omega
 generalize S A0J=X0 at*
 exact C2C
theorem A9g(b o n c gd:Nat)(w:World)(hn:0<n)(hne:n≠2)(c0:w.cell? ⟨b,o,none⟩=some (.string (S A0E))):
 Calls Tryz.prog 96 #[.pointer (some ⟨gd,0,none⟩),.slice (some ⟨b,o,none⟩) n c] w fun e w'=>e= .panicked [{v:=refV 12,recovered:=false}]∧Below w.heap.size w w':=by
 have HMU:=AA (fun W=>A1f 12 EF W)
 have q1:((S A0E).toList==[110,101,119])=false:=by rw[eqk];decide
 have q2:((S A0E).toList==[101,100,105,116])=false:=by rw[eqk];decide
 have q3:((S A0E).toList==[99,117,116])=false:=by rw[eqk];decide
 have q4:((S A0E).toList==[109,97,107,101])=false:=by rw[eqk];decide
 have q5:((S A0E).toList==[117,110,100,111])=false:=by rw[eqk];decide
 have q6:((S A0E).toList==[114,101,100,111])=false:=by rw[eqk];decide
 have q7:((S A0E).toList==[115,97,118,101])=true:=by rw[eqk];decide
 have g1:((n:Int)==2)=false:=by rw[AH];omega
 have g1':((n:Int) !=2)=true:=by rw[bne,g1];rfl
 have g2:(n==2)=false:=by rw[AH];omega
 generalize S A0E=X0 at*
 exact C2C
theorem A9h(b o n c gd:Nat)(w:World)(hn:0<n)(hne:n≠3)(c0:w.cell? ⟨b,o,none⟩=some (.string (S A0o))):
 Calls Tryz.prog 96 #[.pointer (some ⟨gd,0,none⟩),.slice (some ⟨b,o,none⟩) n c] w fun e w'=>e= .panicked [{v:=refV 12,recovered:=false}]∧Below w.heap.size w w':=by
 have HMU:=AA (fun W=>A1f 12 EF W)
 have q1:((S A0o).toList==[110,101,119])=false:=by rw[eqk];decide
 have q2:((S A0o).toList==[101,100,105,116])=false:=by rw[eqk];decide
 have q3:((S A0o).toList==[99,117,116])=false:=by rw[eqk];decide
 have q4:((S A0o).toList==[109,97,107,101])=false:=by rw[eqk];decide
 have q5:((S A0o).toList==[117,110,100,111])=false:=by rw[eqk];decide
 have q6:((S A0o).toList==[114,101,100,111])=false:=by rw[eqk];decide
 have q7:((S A0o).toList==[115,97,118,101])=false:=by rw[eqk];decide
 have q8:((S A0o).toList==[112,97,99,107])=true:=by rw[eqk];decide
 have g1:((n:Int)==3)=false:=by rw[AH];omega
 have g1':((n:Int) !=3)=true:=by rw[bne,g1];rfl
 have g2:(n==3)=false:=by rw[AH];omega
 generalize S A0o=X0 at*
 exact C2C
theorem A8m(b o n c gd:Nat)(w:World)(hn:0<n)(hne:n≠3)(c0:w.cell? ⟨b,o,none⟩=some (.string (S A0j))):
 Calls Tryz.prog 96 #[.pointer (some ⟨gd,0,none⟩),.slice (some ⟨b,o,none⟩) n c] w fun e w'=>e= .panicked [{v:=refV 12,recovered:=false}]∧Below w.heap.size w w':=by
 have HMU:=AA (fun W=>A1f 12 EF W)
 have q1:((S A0j).toList==[110,101,119])=false:=by rw[eqk];decide
 have q2:((S A0j).toList==[101,100,105,116])=false:=by rw[eqk];decide
 have q3:((S A0j).toList==[99,117,116])=false:=by rw[eqk];decide
 have q4:((S A0j).toList==[109,97,107,101])=false:=by rw[eqk];decide
 have q5:((S A0j).toList==[117,110,100,111])=false:=by rw[eqk];decide
 have q6:((S A0j).toList==[114,101,100,111])=false:=by rw[eqk];decide
 have q7:((S A0j).toList==[115,97,118,101])=false:=by rw[eqk];decide
 have q8:((S A0j).toList==[112,97,99,107])=false:=by rw[eqk];decide
 have q9:((S A0j).toList==[99,114,97,115,104])=true:=by rw[eqk];decide
 have g1:((n:Int)==3)=false:=by rw[AH];omega
 have g1':((n:Int) !=3)=true:=by rw[bne,g1];rfl
 have g2:(n==3)=false:=by rw[AH];omega
 generalize S A0j=X0 at*
 exact C2C
theorem A9i(b o n c gd:Nat)(w:World)(hn:0<n)(hne:n≠2)(c0:w.cell? ⟨b,o,none⟩=some (.string (S A0y))):
 Calls Tryz.prog 96 #[.pointer (some ⟨gd,0,none⟩),.slice (some ⟨b,o,none⟩) n c] w fun e w'=>e= .panicked [{v:=refV 12,recovered:=false}]∧Below w.heap.size w w':=by
 have HMU:=AA (fun W=>A1f 12 EF W)
 have q1:((S A0y).toList==[110,101,119])=false:=by rw[eqk];decide
 have q2:((S A0y).toList==[101,100,105,116])=false:=by rw[eqk];decide
 have q3:((S A0y).toList==[99,117,116])=false:=by rw[eqk];decide
 have q4:((S A0y).toList==[109,97,107,101])=false:=by rw[eqk];decide
 have q5:((S A0y).toList==[117,110,100,111])=false:=by rw[eqk];decide
 have q6:((S A0y).toList==[114,101,100,111])=false:=by rw[eqk];decide
 have q7:((S A0y).toList==[115,97,118,101])=false:=by rw[eqk];decide
 have q8:((S A0y).toList==[112,97,99,107])=false:=by rw[eqk];decide
 have q9:((S A0y).toList==[99,114,97,115,104])=false:=by rw[eqk];decide
 have q10:((S A0y).toList==[116,101,120,116])=true:=by rw[eqk];decide
 have g1:((n:Int)==2)=false:=by rw[AH];omega
 have g1':((n:Int) !=2)=true:=by rw[bne,g1];rfl
 have g2:(n==2)=false:=by rw[AH];omega
 generalize S A0y=X0 at*
 exact C2C
theorem A9j(b o n c gd:Nat)(w:World)(hn:0<n)(hne:n≠2)(c0:w.cell? ⟨b,o,none⟩=some (.string (S A0w))):
 Calls Tryz.prog 96 #[.pointer (some ⟨gd,0,none⟩),.slice (some ⟨b,o,none⟩) n c] w fun e w'=>e= .panicked [{v:=refV 12,recovered:=false}]∧Below w.heap.size w w':=by
 have HMU:=AA (fun W=>A1f 12 EF W)
 have q1:((S A0w).toList==[110,101,119])=false:=by rw[eqk];decide
 have q2:((S A0w).toList==[101,100,105,116])=false:=by rw[eqk];decide
 have q3:((S A0w).toList==[99,117,116])=false:=by rw[eqk];decide
 have q4:((S A0w).toList==[109,97,107,101])=false:=by rw[eqk];decide
 have q5:((S A0w).toList==[117,110,100,111])=false:=by rw[eqk];decide
 have q6:((S A0w).toList==[114,101,100,111])=false:=by rw[eqk];decide
 have q7:((S A0w).toList==[115,97,118,101])=false:=by rw[eqk];decide
 have q8:((S A0w).toList==[112,97,99,107])=false:=by rw[eqk];decide
 have q9:((S A0w).toList==[99,114,97,115,104])=false:=by rw[eqk];decide
 have q10:((S A0w).toList==[116,101,120,116])=false:=by rw[eqk];decide
 have q11:((S A0w).toList==[100,114,111,112])=true:=by rw[eqk];decide
 have g1:((n:Int)==2)=false:=by rw[AH];omega
 have g1':((n:Int) !=2)=true:=by rw[bne,g1];rfl
 have g2:(n==2)=false:=by rw[AH];omega
 generalize S A0w=X0 at*
 exact C2C
def A2e(w:World)(base gh:Nat)(v:Value)(ps:List Pc)(w0:List UInt8)(r:List (List UInt8))(e:Ending)(w':World):Prop:=
 if(dkN w0).1=0 then e= .returned (.tuple #[.string ⟨#[]⟩,.bool false])∧Below w.heap.size w w'
 else if dkS w0 r=false then e= .panicked [{v:=refV 12,recovered:=false}]∧Below w.heap.size w w'
 else∃A,A3h w base gh v ps (dkD w0 r A) e w'
theorem A6C{x0:List UInt8}(h:(dkN x0).1≠0):x0=kNew∨x0=A0u∨x0=kCut∨x0=A0V∨x0=A0Q∨x0=A0J∨x0=A0E∨x0=A0o∨x0=A0j∨x0=A0y∨x0=A0w:=by
 by_cases h1:x0=kNew
 ·subst h1;simp
 by_cases h2:x0=A0u
 ·subst h2;simp
 by_cases h3:x0=kCut
 ·subst h3;simp
 by_cases h4:x0=A0V
 ·subst h4;simp
 by_cases h5:x0=A0Q
 ·subst h5;simp
 by_cases h6:x0=A0J
 ·subst h6;simp
 by_cases h7:x0=A0E
 ·subst h7;simp
 by_cases h8:x0=A0o
 ·subst h8;simp
 by_cases h9:x0=A0j
 ·subst h9;simp
 by_cases h10:x0=A0y
 ·subst h10;simp
 by_cases h11:x0=A0w
 ·subst h11;simp
 exact absurd (by unfold dkN;simp[h1,h2,h3,h4,h5,h6,h7,h8,h9,h10,h11]) h
theorem B8t(x0:List UInt8)(r:List (List UInt8))(b o c base gh gd:Nat)(v:Value)(ps:List Pc)(w:World)(hD:DkAt w base gh gd v ps)(hbw:b<w.heap.size)(ht:TabI w)(hl9:∀x∈r,x.length≤4096)(hc9:∀j (_:j<(x0::r).length),w.cell? ⟨b,o+j,none⟩=some (.string (S ((x0::r).getD j [])))):
 Calls Tryz.prog 96 #[.pointer (some ⟨gd,0,none⟩),.slice (some ⟨b,o,none⟩) (r.length+1) c] w (A2e w base gh v ps x0 r):=by
 have c0:=hc9 0 EH
 simp only[CN,Ae] at c0
 by_cases h0:(dkN x0).1=0
 ·refine(B7c x0 b o (r.length+1) c gd w EE h0 c0).mono fun e w' h=> ?_
  unfold A2e
  rw[if_pos h0]
  exact h
 rcases A6C h0 with e|e|e|e|e|e|e|e|e|e|e
 ·subst e
  have hdn:dkN kNew=(1,3):=by decide
  by_cases hc:r.length=2
  ·obtain⟨a,t,rfl⟩:∃a t,r=[a,t]:=by
    match r,hc with
    |[a,t],_=>exact⟨a,t,rfl⟩
   have c1:=hc9 1 EH
   have c2:=hc9 2 EH
   have s1:=hl9 a EH
   have s2:=hl9 t EH
   simp only[BF,Ae] at c1 c2
   have hs:dkS kNew [a,t]=true:=by unfold dkS;rw[hdn];rfl
   refine(B8p a t b o c base gh gd v ps w hD hbw s1 s2 ht c0 c1 c2).mono fun e w' h=> ?_
   exact C0X
  ·have hs:dkS kNew r=false:=by
    exact C1b
   refine(A9M b o (r.length+1) c gd w EE EE c0).mono fun e w' h=> ?_
   exact C0Z
 ·subst e
  have hdn:dkN A0u=(2,5):=by decide
  by_cases hc:r.length=4
  ·obtain⟨a,t,u,i,rfl⟩:∃a t u i,r=[a,t,u,i]:=by
    match r,hc with
    |[a,t,u,i],_=>exact⟨a,t,u,i,rfl⟩
   have c1:=hc9 1 EH
   have c2:=hc9 2 EH
   have c3:=hc9 3 EH
   have c4:=hc9 4 EH
   have s1:=hl9 a EH
   have s2:=hl9 t EH
   have s3:=hl9 u EH
   have s4:=hl9 i EH
   simp only[BF,Ae] at c1 c2 c3 c4
   have hs:dkS A0u [a,t,u,i]=(dig3 t&&dig3 u):=by unfold dkS;rw[hdn];rfl
   cases hd:dig3 t with
   |true=>
    cases hd3:dig3 u with
    |true=>
     refine(B6G a t u i b o c base gh gd v ps w hD hbw s1 s2 s3 hd hd3 ht c0 c1 c2 c3 c4).mono fun e w' h=> ?_
     unfold A2e
     rw[hdn,hs,hd,hd3,if_neg EF,if_neg EF]
     obtain⟨A,h⟩:=h
     refine⟨A, ?_⟩
     have hed:dkEd A0u [a,t,u,i]=⟨(numV t:Int),(numV u:Int),i⟩:=by unfold dkEd;simp
     unfold dkD
     rw[hdn,hed]
     exact h
    |false=>
     refine(A9J a t u b o c gd w hbw s2 s3 hd hd3 c0 c1 c2 c3).mono fun e w' h=> ?_
     unfold A2e
     rw[hdn,hs,hd,hd3,if_neg EF,if_pos (by rfl)]
     exact h
   |false=>
    refine(A9I a t u b o c gd w hbw s2 s3 hd c0 c1 c2 c3).mono fun e w' h=> ?_
    unfold A2e
    rw[hdn,hs,hd,if_neg EF,if_pos (by rfl)]
    exact h
  ·have hs:dkS A0u r=false:=by
    exact C1b
   refine(A9c b o (r.length+1) c gd w EE EE c0).mono fun e w' h=> ?_
   exact C0Z
 ·subst e
  have hdn:dkN kCut=(2,4):=by decide
  by_cases hc:r.length=3
  ·obtain⟨a,t,u,rfl⟩:∃a t u,r=[a,t,u]:=by
    match r,hc with
    |[a,t,u],_=>exact⟨a,t,u,rfl⟩
   have c1:=hc9 1 EH
   have c2:=hc9 2 EH
   have c3:=hc9 3 EH
   have s1:=hl9 a EH
   have s2:=hl9 t EH
   have s3:=hl9 u EH
   simp only[BF,Ae] at c1 c2 c3
   have hs:dkS kCut [a,t,u]=(dig3 t&&dig3 u):=by unfold dkS;rw[hdn];rfl
   cases hd:dig3 t with
   |true=>
    cases hd3:dig3 u with
    |true=>
     refine(B8q a t u b o c base gh gd v ps w hD hbw s1 s2 s3 hd hd3 ht c0 c1 c2 c3).mono fun e w' h=> ?_
     unfold A2e
     rw[hdn,hs,hd,hd3,if_neg EF,if_neg EF]
     obtain⟨A,h⟩:=h
     refine⟨A, ?_⟩
     have hed:dkEd kCut [a,t,u]=⟨(numV t:Int),(numV u:Int),[]⟩:=by unfold dkEd;simp[A0u,kCut]
     unfold dkD
     rw[hdn,hed]
     exact h
    |false=>
     refine(B1a a t u b o c gd w hbw s2 s3 hd hd3 c0 c1 c2 c3).mono fun e w' h=> ?_
     unfold A2e
     rw[hdn,hs,hd,hd3,if_neg EF,if_pos (by rfl)]
     exact h
   |false=>
    refine(B0Z a t u b o c gd w hbw s2 s3 hd c0 c1 c2 c3).mono fun e w' h=> ?_
    unfold A2e
    rw[hdn,hs,hd,if_neg EF,if_pos (by rfl)]
    exact h
  ·have hs:dkS kCut r=false:=by
    exact C1b
   refine(A9N b o (r.length+1) c gd w EE EE c0).mono fun e w' h=> ?_
   exact C0Z
 ·subst e
  have hdn:dkN A0V=(10,3):=by decide
  by_cases hc:r.length=2
  ·obtain⟨a,t,rfl⟩:∃a t,r=[a,t]:=by
    match r,hc with
    |[a,t],_=>exact⟨a,t,rfl⟩
   have c1:=hc9 1 EH
   have c2:=hc9 2 EH
   have s1:=hl9 a EH
   have s2:=hl9 t EH
   simp only[BF,Ae] at c1 c2
   have hs:dkS A0V [a,t]=true:=by unfold dkS;rw[hdn];rfl
   refine(B6H a t b o c base gh gd v ps w hD hbw s1 s2 ht c0 c1 c2).mono fun e w' h=> ?_
   exact C0X
  ·have hs:dkS A0V r=false:=by
    exact C1b
   refine(A9d b o (r.length+1) c gd w EE EE c0).mono fun e w' h=> ?_
   exact C0Z
 ·subst e
  have hdn:dkN A0Q=(3,2):=by decide
  by_cases hc:r.length=1
  ·obtain⟨a,rfl⟩:∃a,r=[a]:=by
    match r,hc with
    |[a],_=>exact⟨a,rfl⟩
   have c1:=hc9 1 EH
   have s1:=hl9 a EH
   simp only[BF,Ae] at c1
   have hs:dkS A0Q [a]=true:=by unfold dkS;rw[hdn];rfl
   refine(B6I a b o c base gh gd v ps w hD s1 ht c0 c1).mono fun e w' h=> ?_
   exact C0X
  ·have hs:dkS A0Q r=false:=by
    exact C1b
   refine(A9e b o (r.length+1) c gd w EE EE c0).mono fun e w' h=> ?_
   exact C0Z
 ·subst e
  have hdn:dkN A0J=(4,2):=by decide
  by_cases hc:r.length=1
  ·obtain⟨a,rfl⟩:∃a,r=[a]:=by
    match r,hc with
    |[a],_=>exact⟨a,rfl⟩
   have c1:=hc9 1 EH
   have s1:=hl9 a EH
   simp only[BF,Ae] at c1
   have hs:dkS A0J [a]=true:=by unfold dkS;rw[hdn];rfl
   refine(B6J a b o c base gh gd v ps w hD s1 ht c0 c1).mono fun e w' h=> ?_
   exact C0X
  ·have hs:dkS A0J r=false:=by
    exact C1b
   refine(A9f b o (r.length+1) c gd w EE EE c0).mono fun e w' h=> ?_
   exact C0Z
 ·subst e
  have hdn:dkN A0E=(5,2):=by decide
  by_cases hc:r.length=1
  ·obtain⟨a,rfl⟩:∃a,r=[a]:=by
    match r,hc with
    |[a],_=>exact⟨a,rfl⟩
   have c1:=hc9 1 EH
   have s1:=hl9 a EH
   simp only[BF,Ae] at c1
   have hs:dkS A0E [a]=true:=by unfold dkS;rw[hdn];rfl
   refine(B6K a b o c base gh gd v ps w hD s1 ht c0 c1).mono fun e w' h=> ?_
   exact C0X
  ·have hs:dkS A0E r=false:=by
    exact C1b
   refine(A9g b o (r.length+1) c gd w EE EE c0).mono fun e w' h=> ?_
   exact C0Z
 ·subst e
  have hdn:dkN A0o=(6,3):=by decide
  by_cases hc:r.length=2
  ·obtain⟨a,t,rfl⟩:∃a t,r=[a,t]:=by
    match r,hc with
    |[a,t],_=>exact⟨a,t,rfl⟩
   have c1:=hc9 1 EH
   have c2:=hc9 2 EH
   have s1:=hl9 a EH
   have s2:=hl9 t EH
   simp only[BF,Ae] at c1 c2
   have hs:dkS A0o [a,t]=dig3 t:=by unfold dkS;rw[hdn];rfl
   cases hd:dig3 t with
   |true=>
    refine(B6L a t b o c base gh gd v ps w hD hbw s1 s2 hd ht c0 c1 c2).mono fun e w' h=> ?_
    unfold A2e
    rw[hdn,hs,hd,if_neg EF,if_neg EF]
    refine⟨none, ?_⟩
    unfold dkD
    rw[hdn]
    exact h
   |false=>
    refine(B1b a t b o c gd w hbw s2 hd c0 c1 c2).mono fun e w' h=> ?_
    unfold A2e
    rw[hdn,hs,hd,if_neg EF,if_pos rfl]
    exact h
  ·have hs:dkS A0o r=false:=by
    exact C1b
   refine(A9h b o (r.length+1) c gd w EE EE c0).mono fun e w' h=> ?_
   exact C0Z
 ·subst e
  have hdn:dkN A0j=(7,3):=by decide
  by_cases hc:r.length=2
  ·obtain⟨a,t,rfl⟩:∃a t,r=[a,t]:=by
    match r,hc with
    |[a,t],_=>exact⟨a,t,rfl⟩
   have c1:=hc9 1 EH
   have c2:=hc9 2 EH
   have s1:=hl9 a EH
   have s2:=hl9 t EH
   simp only[BF,Ae] at c1 c2
   have hs:dkS A0j [a,t]=dig3 t:=by unfold dkS;rw[hdn];rfl
   cases hd:dig3 t with
   |true=>
    refine(B4N a t b o c base gh gd v ps w hD hbw s1 s2 hd ht c0 c1 c2).mono fun e w' h=> ?_
    unfold A2e
    rw[hdn,hs,hd,if_neg EF,if_neg EF]
    refine⟨none, ?_⟩
    unfold dkD
    rw[hdn]
    exact h
   |false=>
    refine(A9K a t b o c gd w hbw s2 hd c0 c1 c2).mono fun e w' h=> ?_
    unfold A2e
    rw[hdn,hs,hd,if_neg EF,if_pos rfl]
    exact h
  ·have hs:dkS A0j r=false:=by
    exact C1b
   refine(A8m b o (r.length+1) c gd w EE EE c0).mono fun e w' h=> ?_
   exact C0Z
 ·subst e
  have hdn:dkN A0y=(8,2):=by decide
  by_cases hc:r.length=1
  ·obtain⟨a,rfl⟩:∃a,r=[a]:=by
    match r,hc with
    |[a],_=>exact⟨a,rfl⟩
   have c1:=hc9 1 EH
   have s1:=hl9 a EH
   simp only[BF,Ae] at c1
   have hs:dkS A0y [a]=true:=by unfold dkS;rw[hdn];rfl
   refine(B6M a b o c base gh gd v ps w hD s1 ht c0 c1).mono fun e w' h=> ?_
   exact C0X
  ·have hs:dkS A0y r=false:=by
    exact C1b
   refine(A9i b o (r.length+1) c gd w EE EE c0).mono fun e w' h=> ?_
   exact C0Z
 ·subst e
  have hdn:dkN A0w=(9,2):=by decide
  by_cases hc:r.length=1
  ·obtain⟨a,rfl⟩:∃a,r=[a]:=by
    match r,hc with
    |[a],_=>exact⟨a,rfl⟩
   have c1:=hc9 1 EH
   have s1:=hl9 a EH
   simp only[BF,Ae] at c1
   have hs:dkS A0w [a]=true:=by unfold dkS;rw[hdn];rfl
   refine(B6N a b o c base gh gd v ps w hD s1 ht c0 c1).mono fun e w' h=> ?_
   exact C0X
  ·have hs:dkS A0w r=false:=by
    exact C1b
   refine(A9j b o (r.length+1) c gd w EE EE c0).mono fun e w' h=> ?_
   exact C0Z
theorem B4Y(v:Value)(w:World):(Instr.typeAssert (.iface 160 v) 20 160 false).run Tryz.prog w= .ok v w:=by kernel_rfl
theorem B7d(x:Int)(w:World):(Instr.field 160 (.agg #[.int .i64 x]) 0).run Tryz.prog w= .ok (.int .i64 x) w:=by kernel_rfl
theorem A4F(g:Nat)(y:Value)(x:Int)(w0 w:World)(hx:0≤x∧x≤1000)(hc:w.cell? ⟨g,0,none⟩=some y)(hz:w.frozen? ⟨g,0,none⟩=false)(hgl:g<w.heap.size)(ht:TabI w0)(hb:Below w0.heap.size w0 w):
 CallsD Tryz.prog 92 #[.pointer (some ⟨g,0,none⟩)] (.panicking [{v:=refV x,recovered:=false}]) w fun e u' w'=>
  e= .returned (.tuple #[])∧u'= .panicking [{v:=refV x,recovered:=true}]∧∃w2,Below w.heap.size w w2∧w'=w2.setCell ⟨g,0,none⟩ (.string (S (errB x))):=by
 have HI:=AA (A1Z x EE EE ht hb)
 have z0:(S (Lib.itoa x)).size≤21:=by rw[A0b];exact Lib.itoa_length_le _ EE EE
 have HE:=AA (B3L x)
 rw[←HE.out]
 clear ht hb HE
 generalize S (Lib.itoa x)=Y0 at*
 unfold refV
 have hta:=fun v W=>B4Y v W
 have hfr:=fun W=>B7d x W
 refine callsD_of_wpS Tryz.func92 rfl fun c₀ cs hu=> ?_
 simp only[Tryz.ntmps92,Cx,AM,BK,Nat.reduceAdd,Nat.reduceSub,Array.replicate_succ,Array.replicate_zero,List.push_toArray,List.append_toArray,Am,Aj]
 apply wpS_seq
 apply wpS_region
 simp[wpOpsS,go_sem,recoverD,hu,Exit.thenS]
 refine wpS_of_wp ?_
 go_wp2_with fail
 refine HI.out.mono ?_
 rintro e w2 ⟨rfl,hb2⟩
 have hc2:=(hb2.cell (p:=⟨g,0,none⟩) hgl).trans hc
 have hz2:=(hb2.frozen (p:=⟨g,0,none⟩) hgl).trans hz
 go_wp2_with fail
 exact⟨rfl,_,rfl,_,results_none rfl _ _ _,rfl,rfl,w2,hb2,rfl⟩
theorem A9k(g:Nat)(w:World):
 CallsD Tryz.prog 92 #[.pointer (some ⟨g,0,none⟩)] .returning w fun e u' w'=>e= .returned (.tuple #[])∧u'= .returning∧w'=w:=by
 refine callsD_of_wpS Tryz.func92 rfl fun c₀ cs hu=> ?_
 simp only[Tryz.ntmps92,Cx,AM,BK,Nat.reduceAdd,Nat.reduceSub,Array.replicate_succ,Array.replicate_zero,List.push_toArray,List.append_toArray,Am,Aj]
 apply wpS_seq
 apply wpS_region
 simp[wpOpsS,go_sem,recoverD,hu,Exit.thenS]
 refine wpS_of_wp ?_
 go_wp2_with fail
 cases c₀
 simp only at hu
 subst hu
 exact⟨rfl,_,rfl,_,results_none rfl _ _ _,rfl,rfl,rfl⟩
def pcs(s:ByteArray):List (List UInt8):=(Lib.splitB ⟨#[32]⟩ 0 (Lib.countB s ⟨#[32]⟩) s).map L
theorem B3U(s:ByteArray):(pcs s).length=Lib.countB s ⟨#[32]⟩+1:=by
 unfold pcs
 rw[AW]
 exact Lib.splitB_all ⟨#[32]⟩ EF 0 _ s rfl
theorem B7e(s:ByteArray):(pcs s).length≤s.size+1:=by
 rw[B3U]
 have:=Lib.countB_le ⟨#[32]⟩ EF s.size s (AD _)
 omega
theorem B7f(s:ByteArray):pcs s=Lib.splitK [32] 0 (Lib.countB s ⟨#[32]⟩) (L s):=Lib.splitB_data ⟨#[32]⟩ 0 _ s
theorem A9O(s:ByteArray):(pcs s).filter (fun x=>decide (x≠ []))=wds (L s):=by
 rw[B7f]
 refine B0c _ _ ?_
 have:Lib.countB s ⟨#[32]⟩=(L s).count 32:=Lib.count_one 32 (L s)
 rw[this]
 exact AD _
theorem A6D(sep:List UInt8):∀(k:Nat) (s:List UInt8),∀x∈Lib.splitK sep 0 k s,x.length≤s.length
 |0,s,x,hx=>by
  rw[Lib.splitK,Ax] at hx
  rw[hx];exact AD _
 |k+1,s,x,hx=>by
  rw[Lib.splitK] at hx
  split at hx
  ·rw[Ax] at hx
   rw[hx];exact AD _
  ·rcases Br.1 hx with rfl|hx
   ·rw[AV];omega
   ·have:=A6D sep k _ x hx
    rw[AZ] at this
    omega
theorem B7g{s:ByteArray}{x:List UInt8}(h:x∈pcs s):x.length≤s.size:=by
 rw[B7f] at h
 have:=A6D [32] _ _ x h
 rwa[A0e] at this
theorem B7h(s:ByteArray):(Lib.splitB ⟨#[32]⟩ 0 (Lib.countB s ⟨#[32]⟩) s).map Value.string=strCells (pcs s):=by
 unfold pcs strCells
 rw[CE]
 rfl
theorem B3m{l:List (List UInt8)}{k:Nat}(h:k<l.length):(l.take (k+1)).filter (fun x=>decide (x≠ []))=(l.take k).filter (fun x=>decide (x≠ []))++if l[k]=[] then [] else [l[k]]:=by
 rw[Aa h,List.filter_append]
 congr 1
 by_cases h0:l[k]=[]
 ·rw[if_pos h0];simp[h0]
 ·rw[if_neg h0];simp[h0]
theorem A0p{s:ByteArray}{x:List UInt8}(h:x∈wds (L s)):x≠ []∧x.length≤s.size:=by
 rw[←A9O] at h
 obtain⟨h1,h2⟩:=List.mem_filter.1 h
 exact⟨CA h2,B7g h1⟩
theorem A1M(s:ByteArray):(wds (L s)).length≤s.size+1:=by
 rw[←A9O]
 exact AQ (Dp _ _) (B7e s)
theorem HsTo.fin{w w1 w3 wx:World}{base gh g:Nat}{v:Value}{ps:List Pc}{P':List Ps}(hD:HsAt w base gh v ps)(h:HsTo w1 w3 base gh v ps P')(hb:Below w.heap.size w w1)(hbx:Below w3.heap.size w3 wx)(hg:w.heap.size≤g)(hg1:g<w1.heap.size)(u:Value):
 HsTo w (wx.setCell ⟨g,0,none⟩ u) base gh v ps P':=by
 obtain⟨⟨v',ps',h1,h2,h3⟩,hc⟩:=h
 have hno:¬HK gh v' ps' g:=fun hk=>by
  rcases h3 _ hk with h4|h4
  ·exact A2d hD hg h4
  ·omega
 have hcs:Chg wx (wx.setCell ⟨g,0,none⟩ u) (fun k=>k=g):=Chg.setH wx _ _
 refine⟨⟨v',ps',(h1.below hbx).keep hcs hno,h2,fun k hk=> ?_⟩, ?_⟩
 ·rcases h3 k hk with h4|h4
  ·exact .inl h4
  ·exact .inr (AQ hb.size h4)
 ·have hc1:Chg w w3 (HK gh v ps):=(Chg.ofB (K:=HK gh v ps) hb).trans hc (fun k hk _=>hk)
  have hc2:Chg w wx (HK gh v ps):=hc1.trans (Chg.ofB (K:=HK gh v ps) hbx) (fun k hk _=>hk)
  exact hc2.trans hcs (fun k hk hlt=>by omega)
theorem B7i(x:Nat)(W:World):Calls Tryz.prog 99 #[.int .i32 (x:Int)] W fun e w'=>e= .returned (.bool (x==32))∧Below W.heap.size W w':=by
 have he:((x:Int)==32)=(x==32):=by
  rw[BR,At,At]
  omega
 generalize(x==32)=v at*
 go_enter Tryz.func99,Tryz.ntmps99
 exact C0b
theorem A1h(s:ByteArray)(W:World)(hs:s.size≤4096):Calls Tryz.prog 98 #[.string s,.func (.func 99) #[] #[]] W fun e w'=>
 ∃g,e= .returned (.slice (some ⟨g,0,none⟩) (wds (L s)).length (wds (L s)).length)∧w'.ownsRow W.heap.size 9 1 (.slice (some ⟨g,0,none⟩) (wds (L s)).length (wds (L s)).length) (wds (L s)).length (strCells (wds (L s)))∧Below W.heap.size W w':=by
 refine(Tryz.strings_FieldsFunc_grows 99 #[] (fun args w=>enters_of Tryz.func99 EG rfl args w) (fun r=>r==32) s W EE (fun W' x _ _=>B7i x W')).mono ?_
 rintro e w' ⟨A,rfl,_,ho,hb⟩
 have hl:(Lib.goFieldsP (fun r=>r==32) s).length=(wds (L s)).length:=by
  have:=congrArg List.length (A8y s)
  rwa[AW] at this
 have hc:(Lib.goFieldsP (fun r=>r==32) s).map Value.string=strCells (wds (L s)):=by
  have h:=A8y s
  rw[show L s=s.data.toList from rfl,←h]
  unfold strCells
  rw[CE]
  rfl
 rw[hl,hc] at ho
 rw[hl]
 exact⟨_,rfl,ho,hb⟩
theorem A1s(x0:List UInt8)(r:List (List UInt8))(A:Option Addr)(c:Nat)(w:World)(hr:Rd w w.heap.size 1 A r.length (strCells r))(hx:x0.length≤4096)(hn:∀x∈r,x≠ [])(ht:TabI w):
 Calls Tryz.prog 101 #[.string (S x0),.slice A r.length c] w fun e w'=>
  e= .returned (.tuple #[.string (if askK x0 r.length=0 then⟨#[]⟩ else S (if askE x0 r=0 then askT x0 r else errB (askE x0 r))),.bool (decide (askK x0 r.length≠0))])∧Below w.heap.size w w':=by
 by_cases h0:askK x0 r.length=0
 ·rw[if_pos h0,AC (by simpa using h0)]
  exact B3i x0 A r.length c w hx h0
 rw[if_neg h0,AG h0]
 rcases A4Q h0 with⟨hl,hw⟩|⟨hl,hw⟩
 ·obtain⟨x,rfl⟩:∃x,r=[x]:=by
   match r,hl with
   |[x],_=>exact⟨x,rfl⟩
  obtain⟨b,o,rfl,hb,hc⟩:=(A5J hr EH).2
  have c0:=hc 0 EH
  simp only[CN,Ae] at c0
  rcases hw with rfl|rfl|rfl
  ·exact B4W x b o c w hb hr c0 ht
  ·exact B2E x (hn x EH) b o c w hb hr c0 ht
  ·exact B3l x b o c w hb hr c0 ht
 ·obtain⟨x,y,rfl⟩:∃x y,r=[x,y]:=by
   match r,hl with
   |[x,y],_=>exact⟨x,y,rfl⟩
  obtain⟨b,o,rfl,hb,hc⟩:=(A5J hr EH).2
  have c0:=hc 0 EH
  have c1:=hc 1 EH
  simp only[CN,Ae,BF] at c0 c1
  rcases hw with rfl|rfl
  ·exact B3k x y b o c w hb hr c0 c1 ht
  ·exact B4X x y b o c w hb hr c0 c1 ht
end Go.Proofs.YtplgghjdidmcfaaGreatDoor
