/- Written anew, smaller, by a program of our own out of our texts. No condition of our own. -/
import Derived.Test.YtplgghjdidmcfaaGreatDoorQ07
import Derived.Test.YtplgghjdidmcfaaGreatDoorQ03
import Derived.Test.YtplgghjdidmcfaaGreatDoorQ04
import Derived.Test.YtplgghjdidmcfaaGreatDoorQ01
import Derived.Lib.SlTrimSet
set_option maxRecDepth 100000
set_option maxHeartbeats 16000000
set_option linter.all false
namespace Go.Proofs.YtplgghjdidmcfaaGreatDoor
open Go.RowKit
theorem C0M{P:Prop}(h:P:=by
 obtain⟨k,hk,rfl,HN,hb⟩:=hrel
 have hbs:=hb.size
 by_cases hlt:k<m
 ·obtain⟨ad,hl,rfl,hab,c0,c1,c2⟩:=(HR.out.below (hb.mono hB)).at_ed hlt
  have HSt:Hid (A0A l[k]=0→∀i,i<k+1→∀x,l[i]? =some x→A0A x=0):=B7L hl HN.out
  have HBd:Hid (∀c,A0A l[k]=c→c≠0→A1d l=c):=fun c=>B8H (by rw[HL.out];omega) hl HN.out
  have hz:(S l[k].ins).size=l[k].ins.length:=A0b _
  have HZ:=AA hz;clear hz HN
  generalize l[k]=x at*
  obtain⟨xa,xd,xi⟩:=x
  simp only at c0 c1 c2 HSt HBd HZ
  skip
  go_wp2
  all_goals first
   |(
    go_ret
    refine⟨A0S (HBd.out _ ?_ EF).symm,Ds⟩
    go_light
    have hz:=HZ.out
    clear HBd HSt HZ
    unfold A0A
    grind)
   |(
    go_roundw
    case rel=>
     go_light
     have hz:=HZ.out
     have h0:A0A ⟨xa,xd,xi⟩=0:=by
      clear HBd HSt HZ
      unfold A0A
      grind
     exact⟨k+1,by omega,by go_num,HSt.out h0,Ds⟩
    case measure=>simp[intOf];omega)
 ·have HF:=AA (B8I (l:=l) (k:=k) (by rw[HL.out];omega) (by rw[HL.out];omega) HN.out)
  go_wp2
  all_goals go_ret
  all_goals exact⟨A0S HF.out.symm,hb⟩
 ):P:=h
theorem B9Y{P:Prop}(h:P:=by
 go_wp2
 go_ret
 exact⟨A0S HE.out.symm,AI _ _⟩
 ):P:=h
theorem C0d{P:Prop}(h:P:=by
 go_wp2
 all_goals first
  |(go_ret;exact⟨A0S HE.out.symm,AI _ _⟩)
  |(exfalso;have:=HN.out;omega)
 ):P:=h
def Ed.cells(x:Ed):List Value:=[.int .i64 x.at_,.int .i64 x.del,.string (S x.ins)]
def A0f(l:List Ed):List Value:=l.flatMap Ed.cells
theorem B1x{α:Type}{ec:α→List Value}{m:Nat}(hec:∀x,(ec x).length=m)(l:List α):(l.flatMap ec).length=l.length*m:=by
 induction l with
 |nil=>simp
 |cons a l ih=>rw[BI,AJ,ih,hec,AM,CG,Ct,DB]
theorem B7K{α:Type}{ec:α→List Value}{m:Nat}(hec:∀x,(ec x).length=m)(l:List α)(k:Nat)(hk:k<l.length)(j:Nat)(hj:j<m):(l.flatMap ec)[k*m+j]? =(ec (l[k]'hk))[j]? :=by
 induction l generalizing k with
 |nil=>simp at hk
 |cons a l ih=>
  rw[BI]
  cases k with
  |zero=>rw[Bi (by rw[hec];omega)];simp
  |succ k=>
   have:=ih k (by simpa using hk)
   rw[BH (by rw[hec,CG];omega),hec,List.getElem_cons_succ,←this,CG]
   congr 1;omega
theorem Rd.at_rec{α:Type}{ec:α→List Value}{m:Nat}(hec:∀x,(ec x).length=m)(hm:0<m){w:World}{B n:Nat}{A:Option Addr}{l:List α}(h:Rd w B m A n (l.flatMap ec)){k:Nat}(hk:k<n):
 ∃ad,∃hl:k<l.length,A=some ad∧ad.block<B∧∀j u,(ec l[k])[j]? =some u→w.cell? (ad.add (k*m+j))=some u:=by
 have hl:l.length=n:=by
  have:=h.1
  rw[B1x hec] at this
  exact Nat.eq_of_mul_eq_mul_right hm this
 obtain⟨ad,e,hb,hc⟩:=h.2 EE
 refine⟨ad,by omega,e,hb,fun j u hu=> ?_⟩
 have hj:j<m:=by rw[←hec (l[k]'(by omega))];exact(Av.1 hu).1
 exact hc _ _ (by rw[B7K hec l k EE j hj];exact hu)
theorem Rd.rec_len{α:Type}{ec:α→List Value}{m:Nat}(hec:∀x,(ec x).length=m)(hm:0<m){w:World}{B n:Nat}{A:Option Addr}{l:List α}(h:Rd w B m A n (l.flatMap ec)):l.length=n:=by
 have:=h.1
 rw[B1x hec] at this
 exact Nat.eq_of_mul_eq_mul_right hm this
theorem A2v(x:Ed):x.cells.length=3:=rfl
theorem Rd.at_ed{w:World}{B n:Nat}{A:Option Addr}{l:List Ed}(h:Rd w B 3 A n (A0f l)){k:Nat}(hk:k<n):
 ∃ad,∃hl:k<l.length,A=some ad∧ad.block<B∧w.cell? (ad.add (k*3))=some (.int .i64 l[k].at_)∧w.cell? ⟨(ad.add (k*3)).block,(ad.add (k*3)).off+1,none⟩=some (.int .i64 l[k].del)∧
  w.cell? ⟨(ad.add (k*3)).block,(ad.add (k*3)).off+2,none⟩=some (.string (S l[k].ins)):=by
 obtain⟨ad,hl,e,hb,hc⟩:=Rd.at_rec A2v EE h hk
 refine⟨ad,hl,e,hb,hc 0 _ rfl, ?_, ?_⟩
 ·have h1:=hc 1 _ rfl
  rwa[←A2A] at h1
 ·have h1:=hc 2 _ rfl
  rwa[←A2A] at h1
theorem A6T(l:List UInt8):(S l).toList.isEmpty=decide (l.length=0):=by
 have:(S l).toList=l:=Ap _
 rw[this];cases l<;>simp
def edAt(n:Int)(k:Nat)(e:Int)(x:Ed):Int:=
 if x.at_<0∨x.del<0∨n<x.at_∨n<x.at_+x.del then 1 else if 40<x.ins.length then 2 else if x.del=0∧x.ins.length=0 then 5 else if 0<k∧x.at_≤e then 6 else 0
structure EdAt (n:Int) (l:List Ed) (k:Nat) (e:Int):Prop where
 le:k≤l.length
 e0:0≤e
 e1:e≤n
 go:edGo n none n l=edGo n (A1Y (l.take k)) (n+grows (l.take k)) (l.drop k)
 last:A1Y (l.take k)=if k=0 then none else some e
 lo: -(200*k:Int)≤grows (l.take k)
 hi:grows (l.take k)≤40*k
 chain:∀x∈l.take k,0≤x.del∧x.del≤200∧x.ins.length≤40
theorem B3v{n:Int}{l:List Ed}{k:Nat}{e:Int}(h:EdAt n l k e)(x:Ed):A3w n (A1Y (l.take k)) x=edAt n k e x:=by
 unfold A3w edAt
 rw[h.last]
 have:(∃e_1,(if k=0 then none else some e)=some e_1∧x.at_≤e_1)↔(0<k∧x.at_≤e):=by
  by_cases hk:k=0
  ·simp[hk]
  ·rw[if_neg hk]
   constructor
   ·rintro⟨_,h1,h2⟩;cases h1;exact⟨by omega,h2⟩
   ·rintro⟨_,h2⟩;exact⟨_,rfl,h2⟩
 simp only[this]
theorem EdAt.start{n:Int}(h:0≤n)(l:List Ed):EdAt n l 0 0:=⟨AS _,Int.le_refl _,h,by simp[A1Y,grows],by simp[A1Y],by simp[grows],by simp[grows],by simp⟩
theorem EdAt.step{n:Int}{l:List Ed}{k:Nat}{e:Int}(h:EdAt n l k e)(hn:n≤200)(hk:k<l.length)(h0:edAt n k e l[k]=0):EdAt n l (k+1) (l[k].at_+l[k].del)∧grows (l.take (k+1))=grows (l.take k)+(l[k].ins.length-l[k].del):=by
 have hg:grows (l.take (k+1))=grows (l.take k)+(l[k].ins.length-l[k].del):=by
  rw[Aa hk,A5o];simp[grows]
 have h1:=B3v h l[k]
 rw[h0] at h1
 obtain⟨a,b,c,d,f,_⟩:=A3x h1
 have hlo:=h.lo
 have hhi:=h.hi
 refine⟨⟨hk,by omega,d,B5y n l k hk h.go h1, ?_,by rw[hg];omega,by rw[hg];omega, ?_⟩,hg⟩
 ·rw[A6S l k hk,if_neg EE]
 ·intro x hx
  rw[Aa hk] at hx
  rcases Af.1 hx with hx|hx
  ·exact h.chain x hx
  ·simp only[Ax] at hx;subst hx;omega
theorem EdAt.bad{n:Int}{l:List Ed}{k:Nat}{e:Int}(h:EdAt n l k e)(hn0:0≤n)(hn:n≤200)(hl:l.length≤20)(hk:k<l.length){c:Int}(hc:edAt n k e l[k]=c)(hc0:c≠0):A0n n l=c:=by
 have h1:=B3v h l[k]
 unfold A0n
 rw[if_neg EE,if_neg EE,B7F n l k hk h.go (by rw[h1,hc];exact hc0),h1,hc]
theorem EdAt.fin{n:Int}{l:List Ed}{k:Nat}{e:Int}(h:EdAt n l k e)(hn0:0≤n)(hn:n≤200)(hl:l.length≤20)(hk:¬k<l.length):A0n n l=if 200<n+grows (l.take k) then 11 else 0:=by
 obtain rfl:k=l.length:=by have:=h.le;omega
 unfold A0n
 rw[if_neg EE,if_neg EE,B7G n l h.go,BJ]
theorem A7O(n:Int)(l:List Ed)(A:Option Addr)(m c B:Nat)(w:World)(hr:Rd w B 3 A m (A0f l))(hB:B≤w.heap.size)(hm:m≤9223372036854775807):
 Calls Tryz.prog 169 #[.int .i64 n,.slice A m c] w fun e w'=>e= .returned (.int .i64 (A0n n l))∧Below w.heap.size w w':=by
 have hlen:=Rd.rec_len A2v EE hr
 by_cases hn:n<0∨200<n
 ·have HE:Hid (A0n n l=1):=by unfold Hid A0n;rw[if_pos hn]
  have HN:=AA hn;clear hn hr
  go_enter Tryz.func169,Tryz.ntmps169
  exact C0d
 have hn0:0≤n:=EE
 have hn1:n≤200:=EE
 have HN:=AA hn;clear hn
 by_cases h20:20<m
 ·have HE:Hid (A0n n l=2):=by unfold Hid A0n;rw[if_neg HN.out,if_pos EE]
  clear hr
  go_enter Tryz.func169,Tryz.ntmps169
  exact B9Y
 have HR:=AA hr;clear hr
 have HL:=AA hlen;clear hlen
 go_enter Tryz.func169,Tryz.ntmps169
 go_wp2
 go_loopw [5,6,21] (fun e s i wr=>∃(k:Nat) (e':Int),EdAt n l k e'∧i= .int .i64 k∧e= .int .i64 e'∧s= .int .i64 (n+grows (l.take k))∧Below w.heap.size w wr)
  (fun _ _ i _=>m-(intOf i).toNat)
 case atStart=>exact⟨0,0,EdAt.start hn0 l,rfl,rfl,by simp[grows],AI _ _⟩
 case round=>
  obtain⟨k,e',HA,rfl,rfl,rfl,hb⟩:=hrel
  have hk:=HA.le
  rw[HL.out] at hk
  have hbs:=hb.size
  have he0:=HA.e0
  have he1:=HA.e1
  have glo:=HA.lo
  have ghi:=HA.hi
  by_cases hlt:k<m
  ·obtain⟨ad,hl,rfl,hab,c0,c1,c2⟩:=(HR.out.below (hb.mono hB)).at_ed hlt
   have HSt:Hid (edAt n k e' l[k]=0→EdAt n l (k+1) (l[k].at_+l[k].del)∧grows (l.take (k+1))=grows (l.take k)+(l[k].ins.length-l[k].del)):=HA.step hn1 hl
   have HBd:Hid (∀c,edAt n k e' l[k]=c→c≠0→A0n n l=c):=fun c=>HA.bad hn0 hn1 (by rw[HL.out];omega) hl
   have hz:(S l[k].ins).size=l[k].ins.length:=A0b _
   have HZ:=AA hz;clear hz
   generalize l[k]=x at*
   generalize grows (l.take k)=g at*
   obtain⟨xa,xd,xi⟩:=x
   simp only at c0 c1 c2 HSt HBd HZ
   clear HA
   have HZ1:Hid ((S xi).toList.isEmpty=decide (xi.length=0)):=A6T xi
   go_wp2
   all_goals first
    |(
     go_ret
     refine⟨A0S (HBd.out _ ?_ EF).symm,Ds⟩
     go_light
     have hz:=HZ.out;have hz1:=HZ1.out
     clear HBd HSt HZ HZ1
     unfold edAt
     grind)
    |(
     go_roundw
     case rel=>
      go_light
      have hz:=HZ.out;have hz1:=HZ1.out
      have h0:edAt n k e' ⟨xa,xd,xi⟩=0:=by
       clear HBd HSt HZ HZ1
       unfold edAt
       grind
      obtain⟨h1,h2⟩:=HSt.out h0
      exact⟨k+1,_,h1,by go_num,by first|rfl|(congr 1;omega),by rw[h2,hz];congr 1;omega,Ds⟩
     case measure=>simp[intOf];omega)
  ·have HF:=AA (HA.fin hn0 hn1 (by rw[HL.out];omega) (by rw[HL.out];omega))
   clear HA
   go_wp2
   all_goals go_ret
   all_goals refine⟨A0S ?_,hb⟩
   all_goals(rw[HF.out];split<;>first|rfl|omega)
theorem B8H{l:List Ed}{k:Nat}(h20:l.length≤20)(hk:k<l.length)(h:∀i,i<k→∀x,l[i]? =some x→A0A x=0){c:Int}(h1:A0A l[k]=c)(hc:c≠0):A1d l=c:=by
 unfold A1d
 rw[if_neg EE,A8t h,Ag hk,A4Y,if_neg (by rw[h1];exact hc),h1]
theorem B7L{l:List Ed}{k:Nat}(hk:k<l.length)(h:∀i,i<k→∀x,l[i]? =some x→A0A x=0)(h0:A0A l[k]=0):∀i,i<k+1→∀x,l[i]? =some x→A0A x=0:=fun i hi x hx=>by
 rcases CT i k with h1|h1
 ·exact h i h1 x hx
 ·obtain rfl:i=k:=EE
  rw[AL hk] at hx
  cases hx;exact h0
theorem B8I{l:List Ed}{k:Nat}(h20:l.length≤20)(hk:l.length≤k)(h:∀i,i<k→∀x,l[i]? =some x→A0A x=0):A1d l=0:=by
 unfold A1d
 rw[if_neg EE,A8t h,Dh hk];rfl
theorem B1y(l:List Ed)(A:Option Addr)(m c B:Nat)(w:World)(hr:Rd w B 3 A m (A0f l))(hB:B≤w.heap.size)(hm:m≤9223372036854775807):
 Calls Tryz.prog 170 #[.slice A m c] w fun e w'=>e= .returned (.int .i64 (A1d l))∧Below w.heap.size w w':=by
 have hlen:=Rd.rec_len A2v EE hr
 by_cases h20:20<m
 ·have HE:Hid (A1d l=2):=by unfold Hid A1d;rw[if_pos EE]
  clear hr
  go_enter Tryz.func170,Tryz.ntmps170
  exact B9Y
 have HR:=AA hr;clear hr
 have HL:=AA hlen;clear hlen
 go_enter Tryz.func170,Tryz.ntmps170
 go_wp2
 go_loopw [10] (fun i wr=>∃k:Nat,k≤m∧i= .int .i64 k∧Hid (∀i,i<k→∀x,l[i]? =some x→A0A x=0)∧Below w.heap.size w wr)
  (fun i _=>m-(intOf i).toNat)
 case atStart=>exact⟨0,AS _,rfl,AA (fun i hi=>by omega),AI _ _⟩
 case round=>
  exact C0M
theorem B2T(l:List Ed)(A:Option Addr)(m c B:Nat)(w:World)(hr:Rd w B 3 A m (A0f l))(hB:B≤w.heap.size)(hm:m≤9223372036854775807):
 Calls Tryz.prog 206 #[.slice A m c] w fun e w'=>e= .returned (.int .i64 (A1d l))∧Below w.heap.size w w':=by
 have hlen:=Rd.rec_len A2v EE hr
 by_cases h20:20<m
 ·have HE:Hid (A1d l=2):=by unfold Hid A1d;rw[if_pos EE]
  clear hr
  go_enter Tryz.func206,Tryz.ntmps206
  exact B9Y
 have HR:=AA hr;clear hr
 have HL:=AA hlen;clear hlen
 go_enter Tryz.func206,Tryz.ntmps206
 go_wp2
 go_loopw [10] (fun i wr=>∃k:Nat,k≤m∧i= .int .i64 k∧Hid (∀i,i<k→∀x,l[i]? =some x→A0A x=0)∧Below w.heap.size w wr)
  (fun i _=>m-(intOf i).toNat)
 case atStart=>exact⟨0,AS _,rfl,AA (fun i hi=>by omega),AI _ _⟩
 case round=>
  exact C0M
theorem B5D(A:Option Addr)(n c B:Nat)(l:List (List UInt8))(w:World)(hr:Rd w B 1 A n (strCells l))(hB:B≤w.heap.size)(hn:n≤1000)(hA:0<n):
 Calls Tryz.prog 65 #[.slice A n c] w fun e w'=>∃v,e= .returned v∧w'.ownsRow w.heap.size 9 1 v n (strCells l)∧Below w.heap.size w w':=by
 obtain⟨i0,hi0,hz0,hz1,hz2⟩:=info_parts A6q
 obtain⟨ad,rfl,hab,_⟩:=hr.2 hA
 have HR:=AA hr;clear hr
 have HX:=AA (A7L l)
 have hnil:=fun(W:World)=>Lib.run_eql_slice_nil (P:=Tryz.prog) W 25 9 (some ad) n c 0 0 Tryz.underlying25
 go_enter Tryz.func65,Tryz.ntmps65
 go_wp2_with (at_builtin;go_must (refine A5l rfl _ _ _ rfl w.heap.size 9 i0 _ 1 16 Tryz.underlying25 hi0 hz0 hz1 hz2 rfl EE _ 0 [] rfl (World.ownsRow_lit w #[] 0 (AD _) (AS _) rfl) B (some ad) n c (strCells l) rfl (HR.out.alloc hB _) HX.out EE EE EH ?_);intro v6 w6 hown6 hb6)
 go_ret
 exact⟨v6,rfl,by simpa using hown6,((AI _ _).alloc (AD _) _).trans hb6⟩
end Go.Proofs.YtplgghjdidmcfaaGreatDoor
namespace Go.Proofs.YtplgghjdidmcfaaGreatDoor
theorem A2B{p:UInt8→Bool}:∀{l:List UInt8},l.dropWhile p=[]↔l.all p=true:=by
 intro l
 induction l with
 |nil=>simp
 |cons a l ih=>
  rw[List.dropWhile_cons,DH]
  cases h:p a with
  |true=>simpa using ih
  |false=>simp
end Go.Proofs.YtplgghjdidmcfaaGreatDoor
