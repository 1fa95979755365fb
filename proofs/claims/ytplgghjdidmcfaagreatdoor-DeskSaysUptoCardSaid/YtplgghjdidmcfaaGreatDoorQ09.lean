/- Written anew, smaller, by a program of our own out of our texts. No condition of our own. -/
import Derived.Test.YtplgghjdidmcfaaGreatDoorQShelf
import Derived.Test.YtplgghjdidmcfaaGreatDoorQ08
import Derived.Shelf.Strings.SlTrimAscii
import Derived.Test.YtplgghjdidmcfaaGreatDoorQ07
import Derived.Test.YtplgghjdidmcfaaGreatDoorQ03
import Derived.Lib.QuietBelow
set_option maxRecDepth 100000
set_option maxHeartbeats 16000000
set_option linter.all false
namespace Go.Proofs.YtplgghjdidmcfaaGreatDoor
open Go.RowKit
theorem C1u{P:Prop}(h:P:=by
 go_quiet (fail)
 go_wp2_with fail
 (apply bodyPost_ret;(simp[results,Tryz.results172,go_sem];rfl);rfl)
 exact⟨_,_,false,rfl,(fun h=>by cases h),(fun _=>HE2.out),Ds⟩
 ):P:=h
theorem A3b(p:ByteArray):(p.size=0→(p.toList==[])=true∧p.toList.isEmpty=true)∧(p.size≠0→(p.toList==[])=false∧p.toList.isEmpty=false):=by
 constructor
 ·intro h0
  have hpe:p.data.toList=[]:=AU (by rw[blen];exact h0)
  rw[Ap,hpe]
  exact⟨rfl,rfl⟩
 ·intro h0
  have hpe:p.data.toList≠ []:=fun h=>h0 (by rw[←blen,h];rfl)
  rw[Ap]
  exact⟨by rw[AH];exact hpe,by rw[DL];exact hpe⟩
theorem B1z(l:List (List UInt8))(k:Nat):(strCells l).take k=strCells (l.take k):=by simp[strCells,List.map_take]
theorem Rd.pre{w:World}{B n k:Nat}{A:Option Addr}{l:List (List UInt8)}(h:Rd w B 1 A n (strCells l))(hk:k≤n):Rd w B 1 A k (strCells (l.take k)):=by
 refine⟨?_,fun h0=> ?_⟩
 ·have:=h.1
  simp only[strCells,AW] at this⊢
  rw[AV];omega
 ·obtain⟨ad,h1,h2,h3⟩:=h.2 EE
  refine⟨ad,h1,h2,fun j u hu=>h3 j u ?_⟩
  rw[←B1z] at hu
  rw[Bq] at hu
  split at hu
  ·exact hu
  ·cases hu
def digs:List UInt8:=[48,49,50,51,52,53,54,55,56,57]
def isDg(b:UInt8):Bool:=decide (48≤b.toNat∧b.toNat≤57)
theorem dg_in(b:UInt8):digs.contains b=isDg b:=by
 have h:∀n:Fin 256,digs.contains (UInt8.ofNat n.val)=isDg (UInt8.ofNat n.val):=by decide
 have:=h ⟨b.toNat,b.toNat_lt⟩
 simpa using this
theorem A6U(w:List UInt8):Lib.trimS w digs=[]↔w.all isDg=true:=by
 have e:(fun b=>digs.contains b)=isDg:=funext dg_in
 unfold Lib.trimS Lib.trimLeftS Lib.trimRightS
 rw[e,A2B,Cp]
 constructor
 ·intro h
  have h2:(w.reverse.dropWhile isDg)=[]:=by
   cases h3:w.reverse.dropWhile isDg with
   |nil=>rfl
   |cons a r=>
    exfalso
    rw[h3,DH,Ai] at h
    have:=List.head?_dropWhile_not isDg w.reverse
    rw[h3] at this
    simp[h.1] at this
  have h3:=A2B.1 h2
  rwa[Cp] at h3
 ·intro h
  have h2:w.reverse.all isDg=true:=by rw[Cp];exact h
  rw[A2B.2 h2];rfl
theorem B3w:∀(w:List UInt8) (acc:Nat),(w.all isDg=true→∃v,Lib.decFrom acc w=some v)∧(w.all isDg=false→Lib.decFrom acc w=none):=by
 intro w
 induction w with
 |nil=>intro acc;exact⟨fun _=>⟨acc,rfl⟩,fun h=>by cases h⟩
 |cons b w ih=>
  intro acc
  rw[Lib.decFrom]
  unfold Lib.digitVal
  rw[DH]
  by_cases h:48≤b.toNat∧b.toNat≤57
  ·rw[if_pos h,show isDg b=true from AG h]
   simp only[Bool.true_and]
   exact ih _
  ·rw[if_neg h,show isDg b=false from AC h]
   simp
theorem A4Z{a:List UInt8}(h:A4X a=false∨a.all isDg=false):A0X a=none:=by
 unfold A0X
 rcases h with h|h
 ·rw[h];rfl
 ·split
  ·exact(B3w a 0).2 h
  ·rfl
theorem B8J:A4X []=false:=by decide
theorem B8K{a:List UInt8}(h:3<a.length):A4X a=false:=AC fun h2=>by omega
theorem B8L{a:List UInt8}(h:a.getD 0 0=48)(h1:1<a.length):A4X a=false:=AC fun h2=>h2.2.2 ⟨h,h1⟩
theorem B8M{a:List UInt8}(h0:a.length≠0)(h1:a.length≤3)(h:¬(a.getD 0 0=48∧1<a.length)):A4X a=true:=AG ⟨h0,h1,h⟩
theorem B5E:∀(w:List UInt8) (acc v:Nat),Lib.decFrom acc w=some v→v<(acc+1)*10^w.length:=by
 intro w
 induction w with
 |nil=>intro acc v h;simp[Lib.decFrom] at h;subst h;simp
 |cons b w ih=>
  intro acc v h
  rw[Lib.decFrom] at h
  cases hd:Lib.digitVal b with
  |none=>rw[hd] at h;cases h
  |some d=>
   rw[hd] at h
   obtain⟨_,h1,h2⟩:=dig48 hd
   have:=ih _ _ h
   rw[AM,Dq,Ck (10^w.length) 10,←Nat.mul_assoc]
   exact AO this (BZ _ EE)
theorem B1A{a:List UInt8}{v:Nat}(h:A0X a=some v):v≤999:=by
 unfold A0X at h
 split at h
 ·rename_i ho
  have h1:=B5E _ _ _ h
  have h2:=CA ho
  have h3:10^a.length≤10^3:=Ch EE h2.2.1
  have h4:(0+1)*10^a.length≤1000:=EE
  omega
 ·cases h
theorem B1B{a:List UInt8}{v:Nat}(hd:a.all isDg=true)(h0:a.length≠0)(h:Lib.decFrom 0 a=some v):Lib.atoi a=some (v:Int):=by
 cases a with
 |nil=>exact absurd rfl h0
 |cons b r=>
  rw[DH,Ai] at hd
  have hb:=CA hd.1
  have h45:(b==45)=false:=by rw[AH];intro e;subst e;exact absurd hb.1 EF
  have h43:(b==43)=false:=by rw[AH];intro e;subst e;exact absurd hb.1 EF
  unfold Lib.atoi
  simp only
  rw[h45,h43]
  simp only[CQ,CD]
  have:Lib.decNat (b::r)=some v:=h
  rw[this];rfl
theorem A7P(X:ByteArray)(hX:X.size≤9223372036854775807)(W:World):
 Calls Tryz.prog 62 #[.string X,.string ⟨#[48,49,50,51,52,53,54,55,56,57]⟩] W fun e W'=>e= .returned (.string (S (Lib.trimS (L X) digs)))∧Below W.heap.size W W':=
 Any.strings_Trim_laid Tryz.lays160 EG X ⟨#[48,49,50,51,52,53,54,55,56,57]⟩ W EE EF (ascii_of_all EF)
theorem A5p{s:ByteArray}{k:Nat}(hk:k<s.size):(L s).getD k 0=s[k]:=by
 rw[AK,AL (by rw[A0e];exact hk)];rfl
theorem B0b{l:List UInt8}{k:Nat}(hk:k<l.length):l.take (k+1)=l.take k++ [l.getD k 0]:=by
 rw[Cf,AL hk,AK,AL hk];rfl
theorem B7M{l:List UInt8}{k:Nat}{c:UInt8}(hk:k<l.length)(h:∀b∈l.take k,b≠c)(h1:l.getD k 0≠c):∀b∈l.take (k+1),b≠c:=fun b hb=>by
 rw[B0b hk,Af] at hb
 rcases hb with hb|hb
 ·exact h b hb
 ·rw[Ax.1 hb];exact h1
theorem B7N{l:List UInt8}{k n:Nat}(hk:k<l.length)(h:Lib.decFrom 0 (l.take k)=some n):Lib.decFrom 0 (l.take (k+1))=if 48≤(l.getD k 0).toNat∧(l.getD k 0).toNat≤57 then some (n*10+((l.getD k 0).toNat-48)) else none:=by
 rw[B0b hk,A9x,h]
 simp only[Lib.decFrom,Lib.digitVal]
 split<;>rename_i h1<;>split at h1<;>simp_all
theorem A8x(s:ByteArray)(c:UInt8)(most:Nat)(hm9:most≤999)(hs:s.size≤140737488355328)(w:World):
 Calls Tryz.prog 172 #[.string s,.int .u8 (c.toNat:Int),.int .i64 (most:Int)] w fun e w'=>∃(n:Int) (rest:ByteArray) (ok:Bool),e= .returned (.tuple #[.int .i64 n,.string rest,.bool ok])∧
  (ok=true→∃v:Nat,n=(v:Int)∧v≤most∧rest.size<s.size∧A0I (L s) c most=some (v,L rest))∧(ok=false→A0I (L s) c most=none)∧Below w.heap.size w w':=by
 go_enter Tryz.func172,Tryz.ntmps172
 go_wp2_with fail
 go_loopw [9,14] (fun nv iv wr=>∃n k:Nat,k≤s.size∧nv= .int .i64 (n:Int)∧n≤most∧iv= .int .i64 (k:Int)∧Hid (Lib.decFrom 0 ((L s).take k)=some n∧∀b∈(L s).take k,b≠c)∧wr=w) (fun _ iv _=>s.size-(intOf iv).toNat)
 case atStart=>exact⟨0,0,AS _,rfl,AS _,rfl,AA ⟨rfl,by simp⟩,rfl⟩
 case round=>
  obtain⟨n,k,hk,rfl,hnm,rfl,HI,rfl⟩:=hrel
  by_cases hlt:k<s.size
  ·have g1:decide ((k:Int)<(s.size:Int))=true:=AG EE
   have g1':decide (k<s.size)=true:=AG hlt
   have hkl:k<(L s).length:=by rw[A0e];exact hlt
   have HG:=AA (A5p hlt)
   by_cases hbc:s[k]=c
   ·have g2:((s[k].toNat:Int)==(c.toNat:Int))=true:=by rw[hbc];exact beq_self_eq_true _
    have g2':(s[k].toNat==c.toNat)=true:=by rw[hbc];exact beq_self_eq_true _
    have HE:=B8G hkl HI.out.2 HI.out.1 hnm hm9 (by rw[HG.out];exact hbc)
    have hex:(s.extract (k+1) s.size).size=s.size-(k+1):=by rw[Ak];omega
    have HX:Hid (L (s.extract (k+1) s.size)=(L s).drop (k+1)):=by
     unfold Hid
     rw[A0x,AX (by rw[AZ,A0e];exact AD _)]
    rw[←HX.out] at HE
    have hs0:0<s.size:=EE
    rw[A5p hs0] at HE
    have HEH:=AA HE
    clear hbc HG HX HE
    go_wp2_with fail
    clear g2 g2' g1 g1'
    rcases BP k with h0|h0
    ·subst h0
     have g3:decide ((0:Int)<((0:Nat):Int))=false:=by decide
     have g3':decide ((0:Int)<0)=false:=by decide
     have HE2:Hid (A0I (L s) c most=none):=HEH.out
     clear HEH
     exact C1u
    ·have g3:decide ((0:Int)<(k:Int))=true:=AG EE
     have g3':decide (0<k)=true:=AG h0
     by_cases h48:s[0]=48
     ·have g4:((s[0].toNat:Int)==48)=true:=by rw[h48];rfl
      have g4':((s[0].toNat:Int) !=48)=false:=by rw[bne,g4];rfl
      by_cases h1:k=1
      ·subst h1
       have HE2:Hid (A0I (L s) c most=some (n,L (s.extract (1+1) s.size))):=by
        have:=HEH.out
        rw[h48] at this;exact this
       clear HEH h48
       go_quiet (fail)
       go_wp2_with fail
       (apply bodyPost_ret;(simp[results,Tryz.results172,go_sem];rfl);rfl)
       exact⟨(n:Int),s.extract 2 s.size,true,rfl,(fun _=>⟨n,rfl,hnm,(by rw[Ak];omega),HE2.out⟩),(fun h=>by cases h),Ds⟩
      ·have g5:((k:Int)==1)=false:=by rw[AH];omega
       have g5':(k==1)=false:=by rw[AH];exact h1
       have HE2:Hid (A0I (L s) c most=none):=by
        have:=HEH.out
        rw[if_neg (by rw[h48];simp;exact fun _=>h1)] at this
        exact this
       clear HEH h48 h1
       exact C1u
     ·have hz:s[0].toNat≠48:=fun e=>h48 (Bo.1 (e.trans (rfl:48=(48:UInt8).toNat)))
      have g4:((s[0].toNat:Int)==48)=false:=by rw[AH];omega
      have g4':((s[0].toNat:Int) !=48)=true:=by rw[bne,g4];rfl
      have HE2:Hid (A0I (L s) c most=some (n,L (s.extract (k+1) s.size))):=by
       have:=HEH.out
       rw[if_pos (by simp[h48];omega)] at this
       exact this
      clear HEH h48 hz
      go_quiet (fail)
      go_wp2_with fail
      (apply bodyPost_ret;(simp[results,Tryz.results172,go_sem];rfl);rfl)
      exact⟨_,_,true,rfl,(fun _=>⟨n,rfl,hnm,EE,HE2.out⟩),(fun h=>by cases h),Ds⟩
   ·have hne:s[k].toNat≠c.toNat:=fun e=>hbc (Bo.1 e)
    have g2:((s[k].toNat:Int)==(c.toNat:Int))=false:=by rw[AH];omega
    have hps:=B7M hkl HI.out.2 (by rw[HG.out];exact hbc)
    have hds:=B7N hkl HI.out.1
    have HPS:=AA hps
    obtain⟨bn,hbn0⟩:∃bn,bn=((L s).getD k 0).toNat:=⟨_,rfl⟩
    rw[←hbn0] at hds
    have hbn:bn=s[k].toNat:=hbn0.trans (congrArg UInt8.toNat (A5p hlt))
    have HDS:Hid ((48≤bn∧bn≤57→Lib.decFrom 0 ((L s).take (k+1))=some (n*10+(bn-48)))∧(¬(48≤bn∧bn≤57)→Lib.decFrom 0 ((L s).take (k+1))=none)):=
     ⟨fun h=>by rw[if_pos h] at hds;exact hds,fun h=>by rw[if_neg h] at hds;exact hds⟩
    have HBN:=AA hbn
    clear hps hds hbc HI HG hne hbn hbn0
    go_wp2_with fail
    all_goals first
     |(
      go_roundw
      case rel=>
       have hbn:=HBN.out
       have hd:=HDS.out.1 EE
       exact⟨n*10+(bn-48),k+1,by omega,congrArg (Value.int .i64) EE,by omega,by go_num,AA ⟨hd,HPS.out⟩,by first|rfl|trivial⟩
      case measure=>simp[intOf];omega)
     |(
      (apply bodyPost_ret;(simp[results,Tryz.results172,go_sem];rfl);rfl)
      first
       |refine⟨_,_,.inl ⟨rfl, ?_,AI _ _⟩⟩
       |refine⟨_,_,false,rfl,(fun h=>by cases h),(fun _=> ?_),AI _ _⟩
      have hbn:=HBN.out
      by_cases hdg:48≤bn∧bn≤57
      ·exact B7I HPS.out (HDS.out.1 hdg) EE
      ·exact B7H HPS.out (HDS.out.2 hdg))
  ·obtain rfl:k=s.size:=EE
   have g1:decide ((s.size:Int)<(s.size:Int))=false:=AC EE
   have g1':decide (s.size<s.size)=false:=AC hlt
   have HE2:Hid (A0I (L s) c most=none):=by
    have h:=HI.out.2
    rw[AX (by rw[A0e];exact AD _)] at h
    exact B7J h
   go_wp2_with fail
   (apply bodyPost_ret;(simp[results,Tryz.results172,go_sem];rfl);rfl)
   exact⟨_,_,false,rfl,(fun h=>by cases h),(fun _=>HE2.out),AI _ _⟩
theorem trimB{a T:ByteArray}(h:S (Lib.trimS (L a) digs)=T):((L a).all isDg=true→T.size=0)∧((L a).all isDg=false→T.size≠0):=by
 constructor
 ·intro h1
  rw[←h,(A6U _).2 h1];rfl
 ·intro h1 h2
  have h3:Lib.trimS (L a) digs=[]:=by
   rw[←h,A0b] at h2
   exact AU h2
  rw[(A6U _).1 h3] at h1;cases h1
def A6b(a:ByteArray)(e:Ending):Prop:=e= .returned (.tuple #[.int .i64 (((A0X (L a)).getD 0:Nat):Int),.bool (A0X (L a)).isSome])
theorem A4A{a:ByteArray}(h:A0X (L a)=none):A6b a (.returned (.tuple #[.int .i64 0,.bool false])):=by
 unfold A6b;rw[h];rfl
theorem B2U{a:ByteArray}{v:Nat}(h:A0X (L a)=some v):A6b a (.returned (.tuple #[.int .i64 (v:Int),.bool true])):=by
 unfold A6b;rw[h];rfl
theorem B2V(a:ByteArray)(ha:a.size≤9223372036854775807)(w:World):
 Calls Tryz.prog 205 #[.string a] w fun e w'=>A6b a e∧Below w.heap.size w w':=by
 have hLl:(L a).length=a.size:=A0e a
 by_cases h0:a.size=0
 ·obtain⟨g2,g3⟩:=(A3b a).1 h0
  have HV:=AA (A4A (a:=a) (A4Z (.inl (by rw[AU (hLl.trans h0)];exact B8J))))
  clear hLl h0
  go_enter Tryz.func205,Tryz.ntmps205
  go_wp2_with fail
  go_ret2
  exact⟨HV.out,Ds⟩
 obtain⟨g2,g3⟩:=(A3b a).2 h0
 by_cases h3:3<a.size
 ·have g4:decide ((3:Int)<(a.size:Int))=true:=AG EE
  have g4':decide (3<a.size)=true:=AG h3
  have HV:=AA (A4A (a:=a) (A4Z (.inl (B8K (by rw[hLl];exact h3)))))
  clear hLl h0 h3
  go_enter Tryz.func205,Tryz.ntmps205
  go_wp2_with fail
  go_ret2
  exact⟨HV.out,Ds⟩
 have g4:decide ((3:Int)<(a.size:Int))=false:=AC EE
 have g4':decide (3<a.size)=false:=AC h3
 have HTR:=AA (A7P a EE)
 obtain⟨T,hT⟩:∃T,S (Lib.trimS (L a) digs)=T:=⟨_,rfl⟩
 have htz:=trimB hT
 rw[hT] at HTR
 clear hT
 have hs0:0<a.size:=EE
 have hgd:=A5p hs0
 cases hdg:(L a).all isDg with
 |false=>
  obtain⟨g5,g6⟩:=(A3b T).2 (htz.2 hdg)
  have HV:=AA (A4A (a:=a) (A4Z (.inr hdg)))
  clear hLl h0 h3 htz hdg hgd
  go_enter Tryz.func205,Tryz.ntmps205
  go_wp2_with fail
  refine(HTR.out _).mono ?_
  rintro e w2 ⟨rfl,hb2⟩
  go_wp2_with fail
  go_ret2
  exact⟨HV.out,hb2⟩
 |true=>
  obtain⟨g5,g6⟩:=(A3b T).1 (htz.1 hdg)
  have HDG:=AA hdg
  clear htz hdg
  by_cases h48:a[0]=48∧1<a.size
  ·have g7:((a[0].toNat:Int)==48)=true:=by rw[h48.1];rfl
   have g7':(a[0].toNat==48)=true:=by rw[h48.1];rfl
   have g8:decide ((1:Int)<(a.size:Int))=true:=AG EE
   have g8':decide (1<a.size)=true:=AG EE
   have HV:=AA (A4A (a:=a) (A4Z (.inl (B8L (by rw[hgd,h48.1]) (by rw[hLl];exact h48.2)))))
   clear hLl h0 h3 hgd h48
   go_enter Tryz.func205,Tryz.ntmps205
   go_wp2_with fail
   refine(HTR.out _).mono ?_
   rintro e w2 ⟨rfl,hb2⟩
   go_wp2_with fail
   go_ret2
   exact⟨HV.out,hb2⟩
  ·obtain⟨v,hv⟩:=(B3w (L a) 0).1 HDG.out
   have hok:A4X (L a)=true:=B8M EE EE (fun h=>h48 ⟨by rw[←hgd];exact h.1,by omega⟩)
   have hval:A0X (L a)=some v:=by unfold A0X;rw[hok];exact hv
   have HV:=AA (B2U hval)
   have HAT:Hid (∀W,Calls Tryz.prog 161 #[.string a] W fun e w'=>e= .returned (.tuple #[.int .i64 (v:Int),.nilIface])∧Below W.heap.size W w'):=fun W=>(Tryz.strconv_Atoi a v EE (by have:=B1B HDG.out EE hv;exact this) W).mono (by
    rintro e w' ⟨rfl,t,rfl⟩
    exact⟨rfl,A1V _ _ _⟩)
   have g9:((a[0].toNat:Int)==48)=true→decide ((1:Int)<(a.size:Int))=false∧decide (1<a.size)=false:=fun h=>by
    have:¬1<a.size:=fun h1=>h48 ⟨Bo.1 (by have:=eq_of_beq h;exact Int.ofNat.inj this),h1⟩
    exact⟨AC EE,AC this⟩
   clear hLl h0 h3 hgd h48 hv hval hok
   cases g7:((a[0].toNat:Int)==48) with
   |true=>
    obtain⟨g8,g8'⟩:=g9 g7
    clear g9
    go_enter Tryz.func205,Tryz.ntmps205
    go_wp2_with fail
    refine(HTR.out _).mono ?_
    rintro e w2 ⟨rfl,hb2⟩
    go_wp2_with fail
    refine(HAT.out _).mono ?_
    rintro e w3 ⟨rfl,hb3⟩
    go_wp2_with fail
    go_ret2
    exact⟨HV.out,A0h hb2 hb3⟩
   |false=>
    clear g9
    go_enter Tryz.func205,Tryz.ntmps205
    go_wp2_with fail
    refine(HTR.out _).mono ?_
    rintro e w2 ⟨rfl,hb2⟩
    go_wp2_with fail
    refine(HAT.out _).mono ?_
    rintro e w3 ⟨rfl,hb3⟩
    go_wp2_with fail
    go_ret2
    exact⟨HV.out,A0h hb2 hb3⟩
end Go.Proofs.YtplgghjdidmcfaaGreatDoor
