/- Written anew, smaller, by a program of our own out of our texts. No condition of our own. -/
import Derived.Test.YtplgghjdidmcfaaGreatDoorQ10
import Derived.Test.YtplgghjdidmcfaaGreatDoorQ05
import Derived.Test.YtplgghjdidmcfaaGreatDoorQ08
import Derived.Test.YtplgghjdidmcfaaGreatDoorQ07
set_option maxRecDepth 100000
set_option maxHeartbeats 16000000
set_option linter.all false
namespace Go.Proofs.YtplgghjdidmcfaaGreatDoor
open Go.RowKit
def recB(s:ByteArray):ByteArray:=⟨#[98]⟩++s
def recE(s:ByteArray):ByteArray:=⟨#[101]⟩++s
theorem B1I(s:ByteArray):L (recB s)=98::L s:=by unfold recB;rw[A3U];rfl
theorem B5K(s:ByteArray):L (recE s)=101::L s:=by unfold recE;rw[A3U];rfl
theorem B5L(s:ByteArray):(recB s).size=s.size+1:=by rw[←A0e,B1I,AM,A0e]
structure LfOk (tx d:ByteArray) (sf:Nat):Prop where
 recs:∃rs,L d=A1T rs∧good [] rs∧L tx=play [] rs
 size:d.size≤4000
 safe:sf≤d.size
theorem LfOk.text{tx d:ByteArray}{sf:Nat}(h:LfOk tx d sf):tx.size≤200:=by
 obtain⟨rs,_,h2,h3⟩:=h.recs
 have:=A6Y h2 (AS _)
 rw[←h3,A0e] at this
 exact this
theorem B1J{d rec:ByteArray}(h:A0t d rec=0):rec.size≤1100∧d.size+(rec.size+6)≤4000∧L (appD d rec)=L d++A0T (L rec):=by
 have h0:=h
 unfold A0t at h
 split at h
 ·cases h
 ·split at h
  ·cases h
  ·refine⟨by omega,by omega, ?_⟩
   unfold appD
   rw[if_pos h0,A3U,L_S]
theorem LfOk.set{tx d:ByteArray}{sf:Nat}(h:LfOk tx d sf){t:ByteArray}(ht:t.size≤200)(he:A0t d (recB t)=0):LfOk t (appD d (recB t)) sf:=by
 obtain⟨rs,h1,h2,h3⟩:=h.recs
 obtain⟨e1,e2,e3⟩:=B1J he
 have hs:=B0f d (recB t) h.size
 refine⟨⟨rs++ [98::L t], ?_,A6W h2 ⟨?_,.inl ⟨_,rfl,by rw[A0e];exact ht⟩,trivial⟩, ?_⟩,hs.1,AQ h.safe hs.2⟩
 ·rw[e3,h1,A8z,B1I]
 ·rw[←B1I,A0e];exact e1
 ·rw[A6X,B1G]
theorem LfOk.edit{tx d:ByteArray}{sf:Nat}(h:LfOk tx d sf){l:List Ed}(hl:A0n tx.size l=0)(he:A0t d (recE (S (wrL l)))=0):LfOk (S (A0C (L tx) l)) (appD d (recE (S (wrL l)))) sf:=by
 obtain⟨rs,h1,h2,h3⟩:=h.recs
 obtain⟨e1,e2,e3⟩:=B1J he
 have hs:=B0f d (recE (S (wrL l))) h.size
 rw[←A0e,h3] at hl
 refine⟨⟨rs++ [101::wrL l], ?_,A6W h2 ⟨?_,.inr ⟨_,rfl,hl⟩,trivial⟩, ?_⟩,hs.1,AQ h.safe hs.2⟩
 ·rw[e3,h1,A8z,B5K,L_S]
 ·have:=e1;rw[←A0e,B5K,L_S] at this;exact this
 ·rw[A6X,B1H hl,L_S,h3]
theorem LfOk.save{tx d:ByteArray}{sf:Nat}(h:LfOk tx d sf):LfOk tx d d.size:=⟨h.recs,h.size,AD _⟩
def A2x(d:ByteArray):ByteArray:=S (play [] (A0P (L d)).1)
theorem LfOk.reads{tx d:ByteArray}{sf:Nat}(h:LfOk tx d sf):A2x d=tx∧good [] (A0P (L d)).1:=by
 obtain⟨rs,h1,h2,h3⟩:=h.recs
 unfold A2x
 rw[h1,A8a rs (A5q h2)]
 exact⟨by simp only;rw[←h3,S_L],h2⟩
theorem LfOk.crash{tx d:ByteArray}{sf:Nat}(h:LfOk tx d sf){keep:Int}(he:A0D d sf keep=0):LfOk (A2x (craD d sf keep)) (craD d sf keep) (craF d sf keep):=by
 obtain⟨rs,h1,h2,h3⟩:=h.recs
 have hz:=B7Q d sf keep h.size h.safe
 obtain⟨j,hj,hs,hn,ht⟩:=B0e rs (A5q h2) (sf+keep.toNat)
 have e1:L (craS d sf keep)=(A1T rs).take (sf+keep.toNat):=by unfold craS;rw[A0x,h1,Az,Bh]
 have e2:craN d sf keep=(A1T (rs.take j)).length:=by unfold craN;rw[e1,hs]
 have e3:L (craD d sf keep)=A1T (rs.take j):=by
  unfold craD
  rw[if_pos he,A0x,e1,Az,Bh,e2,DW,BX hn,ht]
 have hg:=A6V h2 j
 refine⟨⟨rs.take j,e3,hg, ?_⟩,hz.1,hz.2⟩
 unfold A2x
 rw[L_S,e3,A8a _ (A5q hg)]
theorem A4u{s:ByteArray}(hs:s.size≤200):A0t ⟨#[]⟩ (recB s)=0:=by
 have h0:(⟨#[]⟩:ByteArray).size=0:=rfl
 have:=B5L s
 unfold A0t
 rw[if_neg EE,if_neg EE]
theorem LfOk.empty:LfOk ⟨#[]⟩ ⟨#[]⟩ 0:=⟨⟨[],rfl,trivial,rfl⟩,AS _,AS _⟩
def newD(s:ByteArray):ByteArray:=appD ⟨#[]⟩ (recB s)
theorem LfOk.new_{s:ByteArray}(hs:s.size≤200):LfOk s (newD s) (newD s).size:=(LfOk.empty.set hs (A4u hs)).save
theorem A5C{tx d:ByteArray}(h:LfOk tx d d.size):A0D d d.size 0=0∧craD d d.size 0=d∧craF d d.size 0=d.size:=by
 have h0:A0D d d.size 0=0:=by unfold A0D;rw[if_neg EE]
 obtain⟨rs,h1,h2,h3⟩:=h.recs
 have e1:craS d d.size 0=d:=by
  apply B1e
  unfold craS
  rw[A0x,Az,Bh]
  exact AX (by rw[A0e];exact Nat.le_add_right _ _)
 have e2:craN d d.size 0=d.size:=by
  unfold craN
  rw[e1,h1,A8a rs (A5q h2)]
  simp only
  rw[←h1,A0e]
 refine⟨h0, ?_, ?_⟩
 ·unfold craD
  rw[if_pos h0,e1,e2]
  apply B1e
  rw[A0x,Az,Bh]
  exact AX (by rw[A0e];exact AD _)
 ·unfold craF
  rw[if_pos h0,e2]
theorem A3d{d:ByteArray}{sf:Nat}(h:sf≤d.size):A0D d sf 0=0:=by unfold A0D;rw[if_neg EE]
theorem B3y:∀{rs:List (List UInt8)} {s:List UInt8},good s rs→∀(k:Nat) (h:k<rs.length),(rs[k].length≤1100)∧((∃t,rs[k]=98::t∧t.length≤200)∨∃l,rs[k]=101::wrL l∧A0n (play s (rs.take k)).length l=0)
 |r::rs,s,h,0,_=>⟨h.1,h.2.1⟩
 |r::rs,s,h,k+1,hk=>B3y (rs:=rs) (s:=A2O s r) h.2.2 k (by simpa using hk)
theorem B5M{rs:List (List UInt8)}{s:List UInt8}{k:Nat}(h:k<rs.length):play s (rs.take (k+1))=A2O (play s (rs.take k)) rs[k]:=by
 rw[Cf,AL h];exact A6X _ _ _
structure Gbs (w w':World) (rs:List Nat):Prop where
 os:w'.os=w.os
 tape:w'.tape=w.tape
 output:w'.output=w.output
 size:w.heap.size≤w'.heap.size
 block:∀k,k<w.heap.size→k∉rs→w'.heap[k]? =w.heap[k]?
section
variable {w w' w2:World} {rs ss:List Nat} {g:Nat}
theorem Gbs.refl(w:World)(rs:List Nat):Gbs w w rs:=⟨rfl,rfl,rfl,AD _,fun _ _ _=>rfl⟩
theorem Gbs.trans(h:Gbs w w' rs)(k:Gbs w' w2 rs):Gbs w w2 rs:=
 ⟨k.os.trans h.os,k.tape.trans h.tape,k.output.trans h.output,AQ h.size k.size,fun i hi hr=>(k.block i (AO hi h.size) hr).trans (h.block i hi hr)⟩
theorem Gbs.of_gb(h:w.grownBy w' (some g))(hg:g∈rs):Gbs w w' rs:=⟨h.os,h.tape,h.output,h.size,fun i hi hr=>h.block i hi (fun e=>hr (by cases e;exact hg))⟩
theorem Gbs.of_below(h:Below w.heap.size w w')(rs:List Nat):Gbs w w' rs:=⟨h.os,h.tape,h.output,h.size,fun k hk _=>h.block k hk⟩
theorem Gbs.gb(h:Gbs w w' rs)(k:w'.grownBy w2 (some g))(hg:g∈rs∨w.heap.size≤g):Gbs w w2 rs:=
 ⟨k.os.trans h.os,k.tape.trans h.tape,k.output.trans h.output,AQ h.size k.size,fun i hi hr=>(k.block i (AO hi h.size) (fun e=>by
  cases e
  rcases hg with hg|hg
  ·exact hr hg
  ·omega)).trans (h.block i hi hr)⟩
theorem Gbs.set_(h:Gbs w w' rs)(hg:g∈rs∨w.heap.size≤g)(i:Nat)(u:Value):Gbs w (w'.setCell ⟨g,i,none⟩ u) rs:=h.gb (A1F (A0U _ _) i u) hg
end
def Small(l:List Ed):Prop:=∀x∈l,0≤x.del∧x.del≤200∧x.ins.length≤40
theorem Small.grows{l:List Ed}(h:Small l): -(200*l.length:Int)≤grows l∧grows l≤40*l.length:=by
 induction l with
 |nil=>simp[Go.Proofs.YtplgghjdidmcfaaGreatDoor.grows]
 |cons x r ih=>
  have h1:=h x EH
  have h2:=ih (fun y hy=>h y (by simp[hy]))
  simp only[Go.Proofs.YtplgghjdidmcfaaGreatDoor.grows,AM]
  omega
theorem A8B(l:List Ed)(k:Nat)(hk:k<l.length):grows (l.take (k+1))=grows (l.take k)+(l[k].ins.length-l[k].del):=by
 rw[Aa hk,A5o];simp[grows]
theorem Small.take{l:List Ed}(h:Small l)(k:Nat):Small (l.take k):=fun x hx=>h x (CI hx)
theorem B5N(l:List Ed)(A:Option Addr)(m c B:Nat)(w:World)(hr:Rd w B 3 A m (A0f l))(hB:B≤w.heap.size)(hm:m≤1000)(hs:Small l):
 Calls Tryz.prog 179 #[.slice A m c] w fun e w'=>e= .returned (.int .i64 (grows l))∧Below w.heap.size w w':=by
 have hlen:=Rd.rec_len A2v EE hr
 have HR:=AA hr;clear hr
 have HL:=AA hlen;clear hlen
 have HS:=AA hs;clear hs
 go_enter Tryz.func179,Tryz.ntmps179
 go_wp2
 go_loopw [3,8] (fun s i wr=>∃k:Nat,k≤m∧i= .int .i64 k∧s= .int .i64 (grows (l.take k))∧Below w.heap.size w wr) (fun _ i _=>m-(intOf i).toNat)
 case atStart=>exact⟨0,AS _,rfl,rfl,AI _ _⟩
 case round=>
  obtain⟨k,hk,rfl,rfl,hb⟩:=hrel
  have hbs:=hb.size
  by_cases hlt:k<m
  ·obtain⟨ad,hl,rfl,hab,c0,c1,c2⟩:=(HR.out.below (hb.mono hB)).at_ed hlt
   have HG:=AA (A8B l k hl)
   have hg:=(HS.out.take k).grows
   have hkl:(l.take k).length=k:=by rw[AV];omega
   rw[hkl] at hg
   obtain⟨hd0,hd1,hi⟩:=HS.out l[k] (Ac hl)
   obtain⟨g0,g1⟩:=hg
   have hz:(S l[k].ins).size=l[k].ins.length:=A0b _
   have HZ:=AA hz
   have hz2:(S l[k].ins).size≤40:=EE
   clear hz hkl
   generalize l[k]=x at*
   generalize grows (l.take k)=g at*
   obtain⟨xa,xd,xi⟩:=x
   simp only at c0 c1 c2 HG HZ hd0 hd1 hi hz2
   go_wp2
   go_roundw
   case rel=>exact⟨k+1,by omega,by go_num,by rw[HG.out,HZ.out],Ds⟩
   case measure=>simp[intOf];omega
  ·obtain rfl:k=m:=EE
   have HT:Hid (l.take k=l):=by unfold Hid;rw[AX (by rw[HL.out];omega)]
   go_wp2
   go_ret
   exact⟨A0S (by rw[HT.out]),hb⟩
theorem EdAt.lastE{n:Int}{l:List Ed}{k:Nat}{e:Int}(h:EdAt n l k e)(hk:0<k):∃hl:k-1<l.length,e=l[k-1].at_+l[k-1].del∧0≤l[k-1].del∧l[k-1].del≤200:=by
 have hle:=h.le
 have h1:=h.last
 obtain⟨j,rfl⟩:∃j,k=j+1:=⟨k-1,by omega⟩
 have h2:=A6S l j EE
 rw[h1,if_neg EE] at h2
 injection h2 with h2
 have h3:=h.chain l[j] (by rw[Aa (show j<l.length by omega)];exact Cd _ EH)
 exact⟨by omega,h2,h3.1,h3.2.1⟩
theorem A5r(n:Int)(l:List Ed)(A:Option Addr)(m c B:Nat)(w:World)(hr:Rd w B 3 A m (A0f l))(hB:B≤w.heap.size)(hm:m≤9223372036854775807):
 Calls Tryz.prog 129 #[.int .i64 n,.slice A m c] w fun e w'=>e= .returned (.int .i64 (A0n n l))∧Below w.heap.size w w':=by
 have hlen:=Rd.rec_len A2v EE hr
 by_cases hn:n<0∨200<n
 ·have HE:Hid (A0n n l=1):=by unfold Hid A0n;rw[if_pos hn]
  have HN:=AA hn;clear hn hr
  go_enter Tryz.func129,Tryz.ntmps129
  exact C0d
 have hn0:0≤n:=EE
 have hn1:n≤200:=EE
 have HN:=AA hn;clear hn
 by_cases h20:20<m
 ·have HE:Hid (A0n n l=2):=by unfold Hid A0n;rw[if_neg HN.out,if_pos EE]
  clear hr
  go_enter Tryz.func129,Tryz.ntmps129
  exact B9Y
 have HR:=AA hr;clear hr
 have HL:=AA hlen;clear hlen
 go_enter Tryz.func129,Tryz.ntmps129
 go_wp2
 go_loopw [18] (fun i wr=>∃(k:Nat) (e':Int),EdAt n l k e'∧i= .int .i64 k∧Below w.heap.size w wr)
  (fun i _=>m-(intOf i).toNat)
 case atStart=>exact⟨0,0,EdAt.start hn0 l,rfl,AI _ _⟩
 case round=>
  obtain⟨k,e',HA,rfl,hb⟩:=hrel
  have hk:=HA.le
  rw[HL.out] at hk
  have hbs:=hb.size
  have he0:=HA.e0
  have he1:=HA.e1
  by_cases hlt:k<m
  ·have HRb:=AA (HR.out.below (hb.mono hB))
   obtain⟨ad,hl,rfl,hab,c0,c1,c2⟩:=HRb.out.at_ed hlt
   have HSt:Hid (edAt n k e' l[k]=0→EdAt n l (k+1) (l[k].at_+l[k].del)∧grows (l.take (k+1))=grows (l.take k)+(l[k].ins.length-l[k].del)):=HA.step hn1 hl
   have HBd:Hid (∀c,edAt n k e' l[k]=c→c≠0→A0n n l=c):=fun c=>HA.bad hn0 hn1 (by rw[HL.out];omega) hl
   have hz:(S l[k].ins).size=l[k].ins.length:=A0b _
   have HZ:=AA hz;clear hz
   have HZ1:Hid ((S l[k].ins).toList.isEmpty=decide (l[k].ins.length=0)):=A6T _
   by_cases hk0:k=0
   ·have HK0:=AA hk0
    have g0:decide ((0:Int)<(k:Int))=false:=by simp;omega
    have g1:decide (0<k)=false:=by simp;omega
    clear hk0
    generalize l[k]=x at*
    obtain⟨xa,xd,xi⟩:=x
    simp only at c0 c1 c2 HSt HBd HZ HZ1
    clear HA
    go_wp2
    all_goals first
    |(
     go_ret
     refine⟨A0S (HBd.out _ ?_ EF).symm,Ds⟩
     go_light
     have hz:=HZ.out;have hz1:=HZ1.out;have hk0:=HK0.out
     clear HBd HSt HZ HZ1 HK0
     unfold edAt
     grind)
    |(
     go_quiet (fail)
     go_wp2_with fail
     go_roundw
     case rel=>
      go_light
      have hz:=HZ.out;have hz1:=HZ1.out;have hk0:=HK0.out
      have h0:edAt n k e' ⟨xa,xd,xi⟩=0:=by
       clear HBd HSt HZ HZ1 HK0
       unfold edAt
       grind
      exact⟨k+1,_,(HSt.out h0).1,by go_num,A0d Ds _⟩
     case measure=>simp[intOf];omega)
   ·have HLE:=AA (HA.lastE EE)
    obtain⟨ad',hl',hA',ha',d0,d1,d2⟩:=HRb.out.at_ed (k:=k-1) EE
    cases hA'
    have d0:∀o,(wr.alloc o).cell? (ad.add ((k-1)*3))=some (.int .i64 (l[k-1]'hl').at_):=fun o=>(BQ wr o _ (by rw[A0z];omega)).trans d0
    have d1:∀o,(wr.alloc o).cell? ⟨(ad.add ((k-1)*3)).block,(ad.add ((k-1)*3)).off+1,none⟩=some (.int .i64 (l[k-1]'hl').del):=fun o=>(BQ wr o _ (by show(ad.add ((k-1)*3)).block<_;rw[A0z];omega)).trans d1
    clear ha' d2
    have HK0:=AA hk0
    obtain⟨hz9,hpe9,hp0,hp1⟩:=HLE.out
    have hpE:=AA hpe9
    clear hpe9
    have hpA:0≤l[k-1].at_+l[k-1].del:=by rw[←hpE.out];exact he0
    have hpB:l[k-1].at_+l[k-1].del≤200:=by rw[←hpE.out];omega
    clear HLE
    have hk1:1≤k:=EE
    have g0:decide ((0:Int)<(k:Int))=true:=by simp;omega
    have g1:decide (0<k)=true:=by simp;omega
    generalize l[k-1]=y at*
    generalize l[k]=x at*
    obtain⟨xa,xd,xi⟩:=x
    obtain⟨ya,yd,yi⟩:=y
    simp only at c0 c1 c2 HSt HBd HZ HZ1 d0 d1 hp0 hp1 hpE hpA hpB
    clear HA
    have hpE':=hpE
    go_wp2
    all_goals first
    |(
     go_ret
     refine⟨A0S (HBd.out _ ?_ EF).symm,Ds⟩
     go_light
     have hz:=HZ.out;have hz1:=HZ1.out;have hk0:=HK0.out
     clear HBd HSt HZ HZ1 HK0
     unfold edAt;have he:=hpE'.out
     grind)
    |(
     by_cases hov:xa≤ya+yd
     ·have g2:decide (xa≤ya+yd)=true:=AG hov
      go_quiet (fail)
      go_wp2_with fail
      go_ret
      refine⟨A0S (HBd.out _ ?_ EF).symm,A0d Ds _⟩
      go_light
      have hz:=HZ.out;have hz1:=HZ1.out;have hk0:=HK0.out;have he:=hpE'.out
      clear HBd HSt HZ HZ1 HK0
      unfold edAt
      grind
     ·have g2:decide (xa≤ya+yd)=false:=AC hov
      go_quiet (fail)
      go_wp2_with fail
      go_roundw
      case rel=>
       go_light
       have hz:=HZ.out;have hz1:=HZ1.out;have hk0:=HK0.out
       have h0:edAt n k e' ⟨xa,xd,xi⟩=0:=by
        clear HBd HSt HZ HZ1 HK0
        unfold edAt;have he:=hpE'.out
        grind
       exact⟨k+1,_,(HSt.out h0).1,by go_num,A0d Ds _⟩
      case measure=>simp[intOf];omega)
  ·have HF:=AA (HA.fin hn0 hn1 (by rw[HL.out];omega) (by rw[HL.out];omega))
   obtain rfl:k=m:=EE
   have HT:Hid (l.take k=l):=by unfold Hid;rw[AX (by rw[HL.out];omega)]
   rw[HT.out] at HF
   have hsm:Small l:=by have:=HA.chain;rw[HT.out] at this;exact this
   have glo:=HA.lo
   have ghi:=HA.hi
   rw[HT.out] at glo ghi
   have HSM:=AA hsm
   clear HA hsm
   go_wp2_with fail
   refine(B5N l A k c B wr (HR.out.below (hb.mono hB)) (AQ hB hbs) EE HSM.out).mono ?_
   rintro e w2 ⟨rfl,hb2⟩
   have hb3:=hb.trans (hb2.mono hbs)
   generalize grows l=g at*
   go_wp2
   all_goals go_ret
   all_goals refine⟨A0S ?_,hb3⟩
   all_goals(rw[HF.out];split<;>first|rfl|omega)
end Go.Proofs.YtplgghjdidmcfaaGreatDoor
namespace Go.Proofs.YtplgghjdidmcfaaGreatDoor
end Go.Proofs.YtplgghjdidmcfaaGreatDoor
