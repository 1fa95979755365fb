/- Written anew, smaller, by a program of our own out of our texts. No condition of our own. -/
import Derived.Test.YtplgghjdidmcfaaGreatDoorQ18
import Derived.Test.YtplgghjdidmcfaaGreatDoorQ05
import Derived.Test.YtplgghjdidmcfaaGreatDoorQ09
import Derived.Test.YtplgghjdidmcfaaGreatDoorQ06
import Derived.Test.YtplgghjdidmcfaaGreatDoorQ01
set_option maxRecDepth 100000
set_option maxHeartbeats 16000000
set_option linter.all false
namespace Go.Proofs.YtplgghjdidmcfaaGreatDoor
open Go.RowKit
theorem C0K{P:Prop}(h:P:=by
 obtain⟨k,O,hk,rfl,rfl,hOs,HO,hb⟩:=hrel
 have hbs:=hb.size
 by_cases hlt:k<n
 ·obtain⟨ad,hkl,rfl,hab,c0⟩:=(HR.out.below (hb.mono hB)).at_int hlt
  obtain⟨hx0,hx1⟩:=HX.out l[k] (Ac hkl)
  have HSN:=AA (B6a hkl)
  generalize l[k]=x at*
  have HI0:=AA (fun W (hW:Below w.heap.size w W)=>A1Z x hx0 hx1 ht hW)
  have z0:(S (Lib.itoa x)).size≤21:=by rw[A0b];exact Lib.itoa_length_le _ hx0 hx1
  have HEX:Hid (O++(S (Lib.itoa x)++⟨#[32]⟩)=S (rowB (l.take (k+1)))):=by
   unfold Hid
   rw[HO.out,B8U,HSN.out]
  clear HO HSN hx0 hx1
  generalize S (Lib.itoa x)=Y0 at*
  have g1:decide ((k:Int)<(n:Int))=true:=AG EE
  have g1':decide (k<n)=true:=AG hlt
  go_wp2_with fail
  refine(HI0.out _ hb).mono ?_
  rintro e w2 ⟨rfl,hb2⟩
  have hb3:=hb.trans (hb2.mono hbs)
  clear HI0 hb2 hb
  go_wp2_with fail
  go_roundw
  case rel=>exact⟨k+1,_,by omega,by go_num,rfl,by simp only[Bn];have e1:(⟨#[32]⟩:ByteArray).size=1:=rfl;omega,HEX,hb3⟩
  case measure=>simp[intOf];omega
 ·obtain rfl:k=n:=EE
  have g1:decide ((k:Int)<(k:Int))=false:=AC EE
  have g1':decide (k<k)=false:=AC hlt
  have HF:Hid (O++⟨#[46]⟩=S (rowS l)):=by
   have:=HO.out
   rw[AX (by rw[HLL.out];exact AD _)] at this
   unfold Hid rowS
   rw[this,show(⟨#[46]⟩:ByteArray)=S [46] from rfl,A1i,L_S,L_S]
  clear HO
  go_wp2_with fail
  go_ret
  rw[←HF.out]
  exact⟨rfl,hb⟩
 ):P:=h
def rowB(l:List Int):List UInt8:=l.flatMap fun x=>Lib.itoa x++ [32]
def rowS(l:List Int):List UInt8:=rowB l++ [46]
theorem B6a{l:List Int}{k:Nat}(h:k<l.length):rowB (l.take (k+1))=rowB (l.take k)++(Lib.itoa l[k]++ [32]):=by
 unfold rowB
 rw[Aa h,CX]
 simp
theorem B8U(a b:List UInt8):S a++(S b++⟨#[32]⟩)=S (a++(b++ [32])):=by
 have e1:(⟨#[32]⟩:ByteArray)=S [32]:=rfl
 rw[e1]
 simp only[A1i,L_S]
theorem Rd.at_int{w:World}{B n:Nat}{A:Option Addr}{l:List Int}(h:Rd w B 1 A n (ints l)){k:Nat}(hk:k<n):∃ad,∃hl:k<l.length,A=some ad∧ad.block<B∧w.cell? (ad.add k)=some (.int .i64 l[k]):=by
 obtain⟨ad,u,e,hb,hx,hc⟩:=h.at_ hk
 have hl:k<l.length:=by have:=h.1;simp[ints] at this;omega
 refine⟨ad,hl,e,hb, ?_⟩
 rw[ints,BT,AL hl] at hx
 rw[hc,←hx];rfl
theorem A9E(l:List Int)(A:Option Addr)(n c B:Nat)(w:World)(hr:Rd w B 1 A n (ints l))(hB:B≤w.heap.size)(hn:n≤1000)(hl:∀x∈l,-9223372036854775808≤x∧x≤9223372036854775807)(ht:TabI w):
 Calls Tryz.prog 149 #[.slice A n c] w fun e w'=>e= .returned (.string (S (rowS l)))∧Below w.heap.size w w':=by
 have HLL:Hid (l.length=n):=by have:=hr.1;simp[ints] at this;exact this
 have HR:=AA hr
 have HX:=AA hl
 clear hr hl
 go_enter Tryz.func149,Tryz.ntmps149
 go_wp2_with fail
 go_loopw [3,8] (fun ov iv wr=>∃(k:Nat) (O:ByteArray),k≤n∧iv= .int .i64 (k:Int)∧ov= .string O∧O.size≤22*k∧Hid (O=S (rowB (l.take k)))∧Below w.heap.size w wr) (fun _ iv _=>n-(intOf iv).toNat)
 case atStart=>exact⟨0,⟨#[]⟩,AS _,rfl,rfl,AD _,AA rfl,AI _ _⟩
 case round=>
  exact C0K
theorem A8J(l:List Int)(A:Option Addr)(n c B:Nat)(w:World)(hr:Rd w B 1 A n (ints l))(hB:B≤w.heap.size)(hn:n≤1000)(hl:∀x∈l,-9223372036854775808≤x∧x≤9223372036854775807)(ht:TabI w):
 Calls Tryz.prog 155 #[.slice A n c] w fun e w'=>e= .returned (.string (S (rowS l)))∧Below w.heap.size w w':=by
 have HLL:Hid (l.length=n):=by have:=hr.1;simp[ints] at this;exact this
 have HR:=AA hr
 have HX:=AA hl
 clear hr hl
 go_enter Tryz.func155,Tryz.ntmps155
 go_wp2_with fail
 go_loopw [3,8] (fun ov iv wr=>∃(k:Nat) (O:ByteArray),k≤n∧iv= .int .i64 (k:Int)∧ov= .string O∧O.size≤22*k∧Hid (O=S (rowB (l.take k)))∧Below w.heap.size w wr) (fun _ iv _=>n-(intOf iv).toNat)
 case atStart=>exact⟨0,⟨#[]⟩,AS _,rfl,rfl,AD _,AA rfl,AI _ _⟩
 case round=>
  exact C0K
def errB(x:Int):List UInt8:=[101,114,114,111,114,32]++Lib.itoa x
theorem B3L(x:Int):(⟨#[101,114,114,111,114,32]⟩:ByteArray)++S (Lib.itoa x)=S (errB x):=by
 rw[show(⟨#[101,114,114,111,114,32]⟩:ByteArray)=S [101,114,114,111,114,32] from rfl,A1i,L_S,L_S];rfl
theorem A2f(x:Int)(h0:0≤x)(h1:x≤1000){w W:World}(ht:TabI w)(hb:Below w.heap.size w W):
 Calls Tryz.prog 100 #[.int .i64 x] W fun e w'=>e= .returned (.string (S (errB x)))∧Below W.heap.size W w':=by
 have HI0:=AA (A1Z x EE EE ht hb)
 have z0:(S (Lib.itoa x)).size≤21:=by rw[A0b];exact Lib.itoa_length_le _ EE EE
 have HE:=AA (B3L x)
 rw[←HE.out]
 clear ht hb HE
 generalize S (Lib.itoa x)=Y0 at*
 go_enter Tryz.func100,Tryz.ntmps100
 go_wp2_with fail
 refine HI0.out.mono ?_
 rintro e w2 ⟨rfl,hb2⟩
 go_wp2_with fail
 go_ret
 exact⟨rfl,hb2⟩
theorem B6b(b:UInt8):dgtB b=isDg b:=by unfold dgtB isDg;rw[Bool.decide_and]
theorem B3M:∀(t:List UInt8) (acc:Nat),t.all isDg=true→Lib.decFrom acc t=some (t.foldl (fun n c=>10*n+(c.toNat-48)) acc)
 |[],_,_=>rfl
 |b::r,acc,h=>by
  rw[DH,Ai] at h
  have hb:=CA h.1
  have hd:Lib.digitVal b=some (b.toNat-48):=by unfold Lib.digitVal;rw[if_pos hb]
  rw[Lib.decFrom,hd,List.foldl_cons,Ck 10 acc]
  exact B3M r _ h.2
theorem B8d{t:List UInt8}(h:dig3 t=true):Lib.atoi t=some (numV t:Int):=by
 unfold dig3 at h
 simp only[Ai,CV] at h
 have hd:t.all isDg=true:=by rw[←funext B6b];exact h.2
 exact B1B hd EE (B3M t 0 hd)
theorem B1V(w:List UInt8):Lib.trimS w digs=[]↔w.all dgtB=true:=by rw[A6U,funext B6b]
def digV(t:List UInt8):Int:=if dig3 t=true then(numV t:Int) else 0
theorem A8d{t:List UInt8}(h:dig3 t=false):digV t=0:=by unfold digV;rw[h];rfl
theorem A4J{t:List UInt8}(h:dig3 t=true):digV t=(numV t:Int):=by unfold digV;rw[if_pos h]
theorem A3Q(s:ByteArray)(w:World)(hs:s.size≤9223372036854775807):
 Calls Tryz.prog 102 #[.string s] w fun e w'=>e= .returned (.tuple #[.int .i64 (digV (L s)),.bool (dig3 (L s))])∧Below w.heap.size w w':=by
 have HTR:=AA (fun W=>A7P s EE W)
 have HLL:Hid ((L s).length=s.size):=A0e s
 by_cases h1:s.size=0
 ·have HV:Hid (dig3 (L s)=false):=by
   unfold Hid dig3
   rw[HLL.out,AC (p:=0<s.size) EE]
   rfl
  have g1:((s.size:Int)==0)=true:=by rw[h1];rfl
  have g1':(s.size==0)=true:=by rw[h1];rfl
  rw[A8d HV.out,HV.out]
  clear h1
  go_enter Tryz.func102,Tryz.ntmps102
  go_wp2_with fail
  go_ret2
  exact⟨rfl,Ds⟩
 have g1:((s.size:Int)==0)=false:=by rw[AH];omega
 have g1':(s.size==0)=false:=by rw[AH];omega
 by_cases h2:3<s.size
 ·have HV:Hid (dig3 (L s)=false):=by
   exact C0j
  have g2:decide ((3:Int)<(s.size:Int))=true:=AG EE
  have g2':decide (3<s.size)=true:=AG EE
  rw[A8d HV.out,HV.out]
  go_enter Tryz.func102,Tryz.ntmps102
  go_wp2_with fail
  go_ret2
  exact⟨rfl,Ds⟩
 have g2:decide ((3:Int)<(s.size:Int))=false:=AC EE
 have g2':decide (3<s.size)=false:=AC EE
 have HN:Hid (dig3 (L s)=(L s).all dgtB):=by
  unfold Hid dig3
  rw[HLL.out,AG EE,AG EE]
  rfl
 have HTE:Hid ((S (Lib.trimS (L s) digs)).toList=Lib.trimS (L s) digs):=by rw[Hid,Ap];rfl
 cases hd:dig3 (L s) with
 |false=>
  have hne:¬Lib.trimS (L s) digs=[]:=fun h=>by
   have:=(B1V (L s)).1 h
   rw[←HN.out,hd] at this
   cases this
  have HE:Hid (((S (Lib.trimS (L s) digs)).toList.isEmpty=false)∧((S (Lib.trimS (L s) digs)).toList !=[])=true∧((S (Lib.trimS (L s) digs)).toList==[])=false):=by
   rw[Hid,HTE.out]
   refine⟨?_, ?_, ?_⟩
   ·rw[Bool.eq_false_iff];intro h;exact hne (Dm.1 h)
   ·rw[Be];exact hne
   ·rw[AH];exact hne
  rw[A8d hd]
  clear HTE hne hd HN
  generalize S (Lib.trimS (L s) digs)=T at*
  have q1:=HE.out.1;have q2:=HE.out.2.1;have q3:=HE.out.2.2
  go_enter Tryz.func102,Tryz.ntmps102
  go_wp2_with fail
  refine(HTR.out _).mono ?_
  rintro e w2 ⟨rfl,hb2⟩
  go_wp2_with fail
  go_ret2
  exact⟨rfl,hb2⟩
 |true=>
  have hne:Lib.trimS (L s) digs=[]:=(B1V (L s)).2 (by rw[←HN.out];exact hd)
  have HE:Hid (((S (Lib.trimS (L s) digs)).toList.isEmpty=true)∧((S (Lib.trimS (L s) digs)).toList !=[])=false∧((S (Lib.trimS (L s) digs)).toList==[])=true):=by
   rw[Hid,HTE.out,hne]
   exact⟨rfl,rfl,rfl⟩
  have HAT:Hid (∀W,Calls Tryz.prog 161 #[.string s] W fun e w'=>e= .returned (.tuple #[.int .i64 (numV (L s):Int),.nilIface])∧Below W.heap.size W w'):=fun W=>(Tryz.strconv_Atoi s (numV (L s)) EE (B8d hd) W).mono (by
   rintro e w' ⟨rfl,t,rfl⟩
   exact⟨rfl,A1V _ _ _⟩)
  rw[A4J hd]
  clear HTE hne hd HN
  generalize S (Lib.trimS (L s) digs)=T at*
  generalize numV (L s)=V at*
  have q1:=HE.out.1;have q2:=HE.out.2.1;have q3:=HE.out.2.2
  go_enter Tryz.func102,Tryz.ntmps102
  go_wp2_with fail
  refine(HTR.out _).mono ?_
  rintro e w2 ⟨rfl,hb2⟩
  have hbs:=hb2.size
  go_wp2_with fail
  refine(HAT.out _).mono ?_
  rintro e w3 ⟨rfl,hb3⟩
  have hb4:=hb2.trans (hb3.mono hbs)
  go_wp2_with fail
  go_ret2
  exact⟨rfl,hb4⟩
theorem ext_bd{s:ByteArray}{n k:Nat}(hk:k≤n)(hn:n≤s.size):s.extract 0 k=s.extract (n-k) n↔Bd (L s) n k:=by
 rw[B2H hk (by rw[A0e];exact hn)]
 constructor
 ·intro h
  have:=congrArg L h
  rw[A0x,A0x,Az,Bh] at this
  rw[DX];exact this
 ·intro h
  apply B1e
  rw[A0x,A0x,Az,Bh,h,DX]
def pI(s:List UInt8)(m:Nat):List Int:=(pers s m).map Int.ofNat
theorem B1W(s:List UInt8):∀m,(pers s m).length≤m
 |0=>AD _
 |m+1=>by
  have:=B1W s m
  rw[pers];split
  ·rw[AJ,Ah];omega
  ·omega
theorem B1X(s:List UInt8)(m:Nat):(pI s m).length≤m:=by rw[pI,AW];exact B1W s m
theorem pI_hit{s:List UInt8}{m:Nat}(h0:0<m)(h:perB s m=true):pI s (m+1)=pI s m++ [(m:Int)]:=by
 rw[pI,pers,if_pos ⟨h0,h⟩,BM];rfl
theorem B8V{s:List UInt8}{m:Nat}(h:perB s m=false):pI s (m+1)=pI s m:=by
 rw[pI,pers,if_neg (by rw[h];simp)];rfl
theorem eqS(x y:ByteArray):(x.toList==y.toList)=decide (x=y):=beqB x y
theorem B8W{s:ByteArray}{p:Nat}(hp:p≤s.size):(s.extract p s.size=s.extract 0 (s.size-p))↔perB (L s) p=true:=by
 unfold perB
 rw[CV,A0e]
 have:=ext_bd (s:=s) (n:=s.size) (k:=s.size-p) EE (AD _)
 rw[show s.size-(s.size-p)=p by omega] at this
 rw[←this]
 exact eq_comm
theorem B4v(s:ByteArray)(p:Nat)(h1:1≤p)(h2:p≤s.size)(hs:s.size≤200)(w:World):
 Calls Tryz.prog 193 #[.string s,.int .i64 p] w fun e w'=>e= .returned (.bool (perB (L s) p))∧Below w.heap.size w w':=by
 have g1:decide ((1:Int)≤(p:Int))=true:=AG EE
 have g2:decide ((p:Int)≤(s.size:Int))=true:=AG EE
 have HG:Hid (((s.extract p s.size).toList==(s.extract 0 (s.size-p)).toList)=perB (L s) p):=by
  unfold Hid
  rw[eqS,BR,As]
  exact B8W h2
 have g3:=HG.out
 generalize perB (L s) p=b at*
 clear HG
 go_enter Tryz.func193,Tryz.ntmps193
 go_wp2_with fail
 go_quiet (fail)
 go_wp2_with fail
 go_ret
 exact⟨rfl,A0d (AI _ _) _⟩
theorem B0S(s:ByteArray)(hs:s.size≤200)(w:World):
 Calls Tryz.prog 156 #[.string s] w fun e w'=>∃v,e= .returned v∧w'.ownsRow w.heap.size 3 1 v (pI (L s) (s.size+1)).length (ints (pI (L s) (s.size+1)))∧Below w.heap.size w w':=by
 obtain⟨i0,hi0,hz0,hz1,hz2⟩:=info_parts A1E
 go_enter Tryz.func156,Tryz.ntmps156
 go_wp2_with fail
 go_loopw [3,4] (fun o i wr=>∃k:Nat,1≤k∧k≤s.size+1∧i= .int .i64 (k:Int)∧wr.ownsRow w.heap.size 3 1 o (pI (L s) k).length (ints (pI (L s) k))∧Below w.heap.size w wr) (fun _ i _=>s.size+1-(intOf i).toNat)
 case atStart=>exact⟨1,AD _,by omega,rfl,Ad _ _ _ _,AI _ _⟩
 case round=>
  obtain⟨k,hk1,hk,rfl,hown,hb⟩:=hrel
  by_cases hlt:k≤s.size
  ·have HOWN:=AA hown
   clear hown
   have HQ1:=AA (pI_hit (s:=L s) (m:=k) EE)
   have HQ0:=AA (B8V (s:=L s) (m:=k))
   have hql:=B1X (L s) k
   generalize pI (L s) k=q at*
   have g1:decide ((k:Int)≤(s.size:Int))=true:=AG EE
   go_wp2_with fail
   refine(B4v s k hk1 hlt hs _).mono ?_
   rintro e w5 ⟨rfl,hb5⟩
   have hown:=A1l HOWN.out hb5
   have hb5':=A0h hb hb5
   clear hb HOWN hb5
   cases hpb:perB (L s) k with
   |true=>
    have HQ:=AA (HQ1.out hpb)
    clear hpb HQ1 HQ0
    go_wp2_with (at_builtin;go_must (refine A0r rfl _ _ _ rfl w.heap.size 3 i0 _ 1 8 Tryz.underlying91 hi0 hz0 hz1 hz2 rfl EE _ q.length (ints q) rfl (BE (w:=w5) hown _) ⟨w5.heap.size,0,none⟩ 1 1 [.int .i64 ((k:Int))] rfl rfl (BL _ _ _) (by simp[Value.oneCell']) EE EE (by have:=(hb5').size;simp at this⊢;omega) ?_);intro v6 w6 hown6 hg6 hb6;have hb6':=((hb5').alloc (hb5').size _).trans hb6)
    clear hg6 hb6
    go_roundw
    case rel=>
     refine⟨k+1,by omega,by omega,by go_num, ?_,hb6'⟩
     rw[HQ.out,A7Z,AJ]
     exact hown6
    case measure=>simp[intOf];omega
   |false=>
    have HQ:=AA (HQ0.out hpb)
    have HO:=AA hown
    clear hpb HQ1 HQ0 hown
    go_wp2_with fail
    go_roundw
    case rel=>exact⟨k+1,by omega,by omega,by go_num,by rw[HQ.out];exact HO.out,hb5'⟩
    case measure=>simp[intOf];omega
  ·obtain rfl:k=s.size+1:=EE
   have g1:decide (((s.size+1:Nat):Int)≤(s.size:Int))=false:=AC EE
   have HOWN:=AA hown
   clear hown
   go_wp2_with fail
   go_ret
   exact⟨_,rfl,HOWN.out,hb⟩
theorem A7J(s:ByteArray)(hs:200<s.size)(w:World):
 Calls Tryz.prog 148 #[.string s] w fun e w'=>e= .returned (.tuple #[.slice none 0 0,.int .i64 2])∧Below w.heap.size w w':=by
 go_enter Tryz.func148,Tryz.ntmps148
 go_wp2_with fail
 refine(A7I s hs _).mono ?_
 exact B9L
theorem A8K(s:ByteArray)(hs:s.size≤200)(w:World):
 Calls Tryz.prog 148 #[.string s] w fun e w'=>∃v,e= .returned (.tuple #[v,.int .i64 0])∧w'.ownsRow w.heap.size 3 1 v (pI (L s) (s.size+1)).length (ints (pI (L s) (s.size+1)))∧Below w.heap.size w w':=by
 obtain⟨i0,hi0,hz0,hz1,hz2⟩:=info_parts A1E
 rcases BP s.size with h0|h0
 ·have he:s=⟨#[]⟩:=by
   apply B1e
   have h9:L s=[]:=AU (by rw[A0e];exact h0)
   rw[h9];rfl
  subst he
  go_enter Tryz.func148,Tryz.ntmps148
  go_wp2_with fail
  refine(A4h _ hs _).mono ?_
  rintro e w1 ⟨g,rfl,hA,hb1⟩
  clear hA
  go_wp2_with fail
  go_ret2
  exact⟨_,rfl,Ad _ _ _ _,hb1⟩
 have hse:(s.toList.isEmpty)=false:=by
  rw[Ap,DL]
  intro h
  have:=blen s
  rw[h] at this
  simp at this;omega
 have gse:(s.toList==[])=false:=by
  rw[AH];intro h;rw[h] at hse;cases hse
 go_enter Tryz.func148,Tryz.ntmps148
 go_wp2_with fail
 refine(A4h s hs _).mono ?_
 rintro e w1 ⟨g,rfl,hA,hb1⟩
 have HA:=AA hA
 clear hA
 have c0:=HA.out.at_ (k:=s.size-1) EE
 rw[A8s _ _ _ EE,show s.size-1+1=s.size by omega] at c0
 have hfl:=A4c (L s) h0
 have HB0:=AA (A7u (L s) s.size)
 have HP0:Hid (pI (L s) (s.size-fb (L s) s.size)=[]):=by
  have h1:=B4a (s:=L s) (by rw[A0e];exact h0)
  rw[A0e] at h1
  show(pers (L s) (s.size-fb (L s) s.size)).map Int.ofNat=[]
  rw[h1];rfl
 generalize hf0:fb (L s) s.size=f0 at*
 clear hf0
 have hgz:=hb1.size
 go_wp2_with fail
 go_loopw [6,7] (fun o x wr=>∃k:Nat,k<s.size∧x= .int .i64 (k:Int)∧Bd (L s) s.size k∧wr.ownsRow w1.heap.size 3 1 o (pI (L s) (s.size-k)).length (ints (pI (L s) (s.size-k)))∧Below w1.heap.size w1 wr) (fun _ x _=>(intOf x).toNat)
 case atStart=>exact⟨f0,hfl,rfl,HB0.out,by rw[HP0.out];exact Ad _ _ _ _,AI _ _⟩
 case round=>
  clear c0 HB0 HP0
  obtain⟨k,hk,rfl,hbd,hown,hb⟩:=hrel
  have HOWN:=AA hown
  clear hown
  have hql:=B1X (L s) (s.size-k)
  by_cases hk0:0<k
  ·have g1:decide ((0:Int)<(k:Int))=true:=AG EE
   have hfk:=A4c (L s) hk0
   have HQ:Hid (pI (L s) (s.size-fb (L s) k)=pI (L s) (s.size-k)++ [((s.size-k:Nat):Int)]):=by
    have:=B5k (s:=L s) hk0 (by rw[A0e];exact hk) (by rw[A0e];exact hbd)
    rw[A0e] at this
    unfold Hid pI;rw[this,BM];rfl
   have HBD:Hid (Bd (L s) s.size (fb (L s) k)):=hbd.up (A7u _ _)
   clear hbd
   generalize pI (L s) (s.size-k)=q at*
   have hvv:((s.size-k:Nat):Int)=(s.size:Int)-(k:Int):=EE
   rw[hvv] at HQ
   clear hvv
   have HC1:Hid (∀w':World,Below w1.heap.size w1 w'→w'.cell? ⟨g,k-1,none⟩=some (.int .i64 (fb (L s) k:Nat))):=fun w' hb'=>by
    have c1:=(HA.out.below hb').at_ (k:=k-1) EE
    rw[A8s _ _ _ EE,show k-1+1=k by omega] at c1
    exact c1
   generalize fb (L s) k=f1 at*
   go_wp2_with (at_builtin;go_must (refine A0r rfl _ _ _ rfl w1.heap.size 3 i0 _ 1 8 Tryz.underlying91 hi0 hz0 hz1 hz2 rfl EE _ q.length (ints q) rfl (BE (w:=wr) HOWN.out _) ⟨wr.heap.size,0,none⟩ 1 1 [.int .i64 ((s.size:Int)-(k:Int))] rfl rfl (BL _ _ _) (by simp[Value.oneCell']) EE EE (by have:=(hb).size;simp at this⊢;omega) ?_);intro v6 w6 hown6 hg6 hb6;have hb6':=((hb).alloc (hb).size _).trans hb6;have c1:=HC1.out _ hb6')
   clear hg6 hb6
   go_roundw
   case rel=>
    refine⟨f1,by omega,rfl,HBD.out, ?_,hb6'⟩
    rw[HQ.out,A7Z,AJ]
    exact hown6
   case measure=>simp[intOf];omega
  ·obtain rfl:k=0:=EE
   have g1:decide ((0:Int)<((0:Nat):Int))=false:=by decide
   have HQ:Hid (pI (L s) (s.size+1)=pI (L s) (s.size-0)++ [(s.size:Int)]):=by
    have:=B7r (s:=L s) (by rw[A0e];exact h0)
    rw[A0e] at this
    unfold Hid pI;rw[this,BM];rfl
   clear hbd
   generalize pI (L s) (s.size-0)=q at*
   go_wp2_with (at_builtin;go_must (refine A0r rfl _ _ _ rfl w1.heap.size 3 i0 _ 1 8 Tryz.underlying91 hi0 hz0 hz1 hz2 rfl EE _ q.length (ints q) rfl (BE (w:=wr) HOWN.out _) ⟨wr.heap.size,0,none⟩ 1 1 [.int .i64 ((s.size:Int))] rfl rfl (BL _ _ _) (by simp[Value.oneCell']) EE EE (by have:=(hb).size;simp at this⊢;omega) ?_);intro v6 w6 hown6 hg6 hb6;have hb6':=((hb).alloc (hb).size _).trans hb6)
   clear hg6 hb6
   go_ret2
   refine⟨_,rfl, ?_,hb1.trans (hb6'.mono hgz)⟩
   rw[HQ.out,A7Z,AJ]
   exact A3a hown6 hgz
end Go.Proofs.YtplgghjdidmcfaaGreatDoor
namespace Go.Proofs.YtplgghjdidmcfaaGreatDoor
def Sx(s p:List UInt8)(i k:Nat):Prop:=k≤p.length∧k≤i∧∀j,j<k→s.getD (i-k+j) 0=p.getD j 0
theorem Sx.zero(s p:List UInt8)(i:Nat):Sx s p i 0:=⟨AS _,AS _,fun _ h=>by omega⟩
theorem Sx.bd{s p:List UInt8}{i k k':Nat}(h:Sx s p i k)(h':Sx s p i k')(hk:k'≤k):Bd p k k':=by
 refine⟨hk,fun j hj=> ?_⟩
 rw[←h.2.2 (k-k'+j) EE,←h'.2.2 j hj]
 congr 1
 have:=h.2.1;omega
theorem Sx.down{s p:List UInt8}{i k k':Nat}(h:Sx s p i k)(h':Bd p k k'):Sx s p i k':=by
 refine⟨AQ h'.1 h.1,AQ h'.1 h.2.1,fun j hj=> ?_⟩
 rw[←h'.2 j hj,←h.2.2 (k-k'+j) (by have:=h'.1;omega)]
 congr 1
 have:=h.2.1;have:=h'.1;omega
theorem Sx.succ{s p:List UInt8}{i k:Nat}:Sx s p (i+1) (k+1)↔Sx s p i k∧k<p.length∧s.getD i 0=p.getD k 0:=by
 constructor
 ·rintro⟨h1,h2,h3⟩
  refine⟨⟨by omega,by omega,fun j hj=> ?_⟩,by omega, ?_⟩
  ·rw[←h3 j EE];congr 1;omega
  ·rw[←h3 k EE];congr 1;omega
 ·rintro⟨⟨h1,h2,h3⟩,h4,h5⟩
  refine⟨h4,by omega,fun j hj=> ?_⟩
  by_cases e:j=k
  ·subst e;rw[←h5];congr 1;omega
  ·rw[←h3 j EE];congr 1;omega
def Sk(s p:List UInt8)(i k:Nat):Prop:=Sx s p i k∧∀k',Sx s p i k'→k'≤k
def Ki(s p:List UInt8)(i k:Nat):Prop:=Sx s p i k∧∀k',k'<p.length→Sx s p i k'→p.getD k' 0=s.getD i 0→k'≤k
theorem Sk.start(s p:List UInt8):Sk s p 0 0:=⟨Sx.zero s p 0,fun _ h=>h.2.1⟩
theorem Sk.ki{s p:List UInt8}{i k:Nat}(h:Sk s p i k):Ki s p i k:=⟨h.1,fun k' _ h' _=>h.2 k' h'⟩
theorem Ki.next{s p:List UInt8}{i k:Nat}(h:Ki s p i k)(hk:0<k)(hne:k=p.length∨p.getD k 0≠s.getD i 0):Ki s p i (fb p k):=by
 refine⟨h.1.down (A7u p k),fun k' h1 h2 h3=> ?_⟩
 have h4:=h.2 k' h1 h2 h3
 have h5:k'≠k:=fun e=>by
  subst e
  rcases hne with hne|hne
  ·omega
  ·exact hne h3
 exact A5Y EE (h.1.bd h2 h4)
theorem Ki.hit{s p:List UInt8}{i k:Nat}(h:Ki s p i k)(hk:k<p.length)(he:p.getD k 0=s.getD i 0):Sk s p (i+1) (k+1):=by
 refine⟨Sx.succ.2 ⟨h.1,hk,he.symm⟩,fun k' h'=> ?_⟩
 cases k' with
 |zero=>omega
 |succ k'=>
  obtain⟨h1,h2,h3⟩:=Sx.succ.1 h'
  have:=h.2 k' h2 h1 h3.symm;omega
theorem Ki.miss{s p:List UInt8}{i:Nat}(h:Ki s p i 0)(hne:p.getD 0 0≠s.getD i 0):Sk s p (i+1) 0:=by
 refine⟨Sx.zero _ _ _,fun k' h'=> ?_⟩
 cases k' with
 |zero=>omega
 |succ k'=>
  exfalso
  obtain⟨h1,h2,h3⟩:=Sx.succ.1 h'
  have:=h.2 k' h2 h1 h3.symm
  obtain rfl:k'=0:=EE
  exact hne h3.symm
def hitB(s p:List UInt8)(a:Nat):Bool:=decide ((s.drop a).take p.length=p)
theorem B1Y{s p:List UInt8}{i:Nat}(h:p.length≤i)(hi:i≤s.length):hitB s p (i-p.length)=true↔Sx s p i p.length:=by
 unfold hitB
 rw[As]
 have hl:((s.drop (i-p.length)).take p.length).length=p.length:=by rw[AV,AZ];omega
 have hg:∀j,j<p.length→((s.drop (i-p.length)).take p.length).getD j 0=s.getD (i-p.length+j) 0:=fun j hj=>by
  rw[AK,Ba hj,BU,←AK]
 constructor
 ·intro e
  refine⟨AD _,h,fun j hj=> ?_⟩
  rw[←hg j hj,e]
 ·rintro⟨_,_,h3⟩
  apply CO hl
  intro j h1 h2
  have h4:=hg j h2
  rw[h3 j h2,AK,AL h1,AK,AL h2] at h4
  exact h4
theorem Sk.full{s p:List UInt8}{i k:Nat}(h:Sk s p i k)(hi:i≤s.length):k=p.length↔p.length≤i∧hitB s p (i-p.length)=true:=by
 constructor
 ·intro e
  have h1:=h.1
  rw[e] at h1
  exact⟨h1.2.1,(B1Y h1.2.1 hi).2 h1⟩
 ·rintro⟨h1,h2⟩
  have h3:=h.2 _ ((B1Y h1 hi).1 h2)
  have:=h.1.1;omega
def A4m(s p:List UInt8)(n:Nat):List Nat:=(List.range n).filter (hitB s p)
theorem A8L(s p:List UInt8)(n:Nat):A4m s p (n+1)=A4m s p n++if hitB s p n=true then [n] else []:=by
 unfold A4m
 rw[List.range_succ,List.filter_append]
 by_cases h:hitB s p n=true
 ·rw[if_pos h];simp[h]
 ·rw[if_neg h];simp[h]
theorem B0n(s p:List UInt8)(n:Nat):(A4m s p n).length≤n:=by
 have:=Dp (hitB s p) (List.range n)
 rw[List.length_range] at this;exact this
theorem B4w{s p:List UInt8}{i k:Nat}(h:Sk s p (i+1) k)(hi:i<s.length):
 A4m s p (i+2-p.length)=A4m s p (i+1-p.length)++if k=p.length then [i+1-p.length] else []:=by
 rcases CT (i+1) p.length with h1|h1
 ·rw[if_neg (fun e=>by have:=h.1.2.1;omega),show i+2-p.length=0 by omega,show i+1-p.length=0 by omega];rfl
 ·rw[show i+2-p.length=i+1-p.length+1 by omega,A8L]
  have h2:=h.full EE
  by_cases e:k=p.length
  ·rw[if_pos e,if_pos (h2.1 e).2]
  ·rw[if_neg e,if_neg (fun h3=>e (h2.2 ⟨h1,h3⟩))]
end Go.Proofs.YtplgghjdidmcfaaGreatDoor
