/- Written anew, smaller, by a program of our own out of our texts. No condition of our own. -/
import Derived.Test.YtplgghjdidmcfaaGreatDoorQ44
set_option maxRecDepth 100000
set_option maxHeartbeats 16000000
set_option linter.all false
namespace Go.Proofs.YtplgghjdidmcfaaGreatDoor
open Go.RowKit
theorem C0T{P:Prop}(h:P:=by
 go_enter Tryz.func5,Tryz.ntmps5
 go_wp2_with fail
 refine HDK.out.mono ?_
 rintro e w1 ⟨A,c,rfl,hr1,hb1⟩
 have HRF:=AA (HRF0.out w1 hb1)
 have HR1:=AA (hr1)
 have HB1:=AA hb1
 clear HDK HRF0 hr1 hb1
 go_wp2_with fail
 refine HRF.out.mono ?_
 rintro e w2 ⟨A2,c2,rfl,hr2,hb2⟩
 have HR2:=AA hr2
 have HR1B:=AA (HR1.out.below hb2)
 have HB2:=AA (HB1.out.trans (hb2.mono HB1.out.size))
 clear HRF HR1 HB1 hr2 hb2
 go_wp2_with fail
 refine(A9t A A2 N c c2 _ _ l w2 EE HR1B.out HR2.out).mono ?_
 rintro e w3 ⟨rfl,hb3⟩
 have HB3:=AA (HB2.out.trans (hb3.mono HB2.out.size))
 clear hb3 HB2 HR1B HR2
 go_wp2_with fail
 go_ret
 exact⟨rfl,HB3.out⟩
 ):P:=h
theorem B2G(s:ByteArray)(mx:Int)(w:World)(hs:s.size≤1048576)(ht:TabI w)(hm:w.cell? ⟨0,0,none⟩=some (.int .i64 mx))(hw0:0<w.heap.size):
 Calls Tryz.prog 5 #[.string s] w fun e w'=>e= .returned (.bool true)∧Below w.heap.size w w':=by
 by_cases h4:4096<s.size∨60<(lns s).length
 ·have h1:=B3n s mx w hs hm h4
  have HDK:Hid (Calls Tryz.prog 15 #[.string s] w fun e w'=>∃(A:Option Addr) (c:Nat),e= .returned (.tuple #[.slice A 0 c,.int .i64 2])∧Rd w' w'.heap.size 1 A 0 (strCells [])∧Below w.heap.size w w'):=h1.mono (by rintro e w' ⟨rfl,hb⟩;exact⟨none,0,rfl,Rd.nil_,hb⟩)
  have HRF0:Hid (∀w1,Below w.heap.size w w1→Calls Tryz.prog 16 #[.string s,.func (.func 10) #[] #[]] w1 fun e w'=>∃(A:Option Addr) (c:Nat),e= .returned (.tuple #[.slice A 0 c,.int .i64 2])∧Rd w' w'.heap.size 1 A 0 (strCells [])∧Below w1.heap.size w1 w'):=fun w1 hb=>(B5b s mx w1 hs ((hb.cell (p:=⟨0,0,none⟩) hw0).trans hm) h4).mono (by rintro e w' ⟨rfl,hb⟩;exact⟨none,0,rfl,Rd.nil_,hb⟩)
  have hN:0≤1048577:=EE
  obtain⟨N,hNe⟩:∃N:Nat,0=N:=⟨_,rfl⟩
  obtain⟨l,hle⟩:∃l:List (List UInt8),[]=l:=⟨_,rfl⟩
  rw[hNe] at hN
  rw[hle] at HDK HRF0
  have HDK2:Hid (Calls Tryz.prog 15 #[.string s] w fun e w'=>∃(A:Option Addr) (c:Nat),e= .returned (.tuple #[.slice A N c,.int .i64 2])∧Rd w' w'.heap.size 1 A N (strCells l)∧Below w.heap.size w w'):=by subst hNe;exact HDK
  have HRF2:Hid (∀w1,Below w.heap.size w w1→Calls Tryz.prog 16 #[.string s,.func (.func 10) #[] #[]] w1 fun e w'=>∃(A:Option Addr) (c:Nat),e= .returned (.tuple #[.slice A N c,.int .i64 2])∧Rd w' w'.heap.size 1 A N (strCells l)∧Below w1.heap.size w1 w'):=by subst hNe;exact HRF0
  have HDK:=HDK2
  have HRF0:=HRF2
  clear h1 hNe hle ht hm hw0 h4 HDK2 HRF2
  exact C0T
 ·have HDK:=AA (B3o s mx w hs ht hm hw0 h4)
  have HRF0:=AA (fun w1 (hb:Below w.heap.size w w1)=>B5c s mx w1 hs (A0c ht hb) ((hb.cell (p:=⟨0,0,none⟩) hw0).trans hm) (AO hw0 hb.size) h4)
  have hN:(A1r [] (lns s)).length≤1048577:=by have:=A7s s;have:=A4S [] (lns s);omega
  generalize A1r [] (lns s)=l at*
  generalize l.length=N at*
  clear ht hm hw0 h4
  exact C0T
end Go.Proofs.YtplgghjdidmcfaaGreatDoor
