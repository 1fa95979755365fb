/- Written anew, smaller, by a program of our own out of our texts. No condition of our own. -/
import Derived.Test.YtplgghjdidmcfaaGreatDoorRows
import Derived.WalkKit
import Derived.WalkSpells
import Derived.WalkLawsBesides
import Derived.Deep.QuietTactic
import Derived.BigQuiet
import Derived.Deep.Draws
import Derived.Deep.AppendLies
import Derived.Lib.Hide
import Derived.Deep.Light
import Derived.Lib.QuietBelow
import Derived.Deep.RegionWith
import Derived.Deep.RegionLaw
import Derived.Deep.DeepCutAuto
import Derived.Lib.ConvBytes
import Derived.Laws.BytesArg
import Derived.Laws.IdiomStrings
set_option maxRecDepth 100000
set_option maxHeartbeats 16000000
set_option linter.all false
namespace Go.Proofs.YtplgghjdidmcfaaGreatDoor
open Go.RowKit
theorem Ds{P:Prop}(h:P:=by repeat(first|exact AI _ _|assumption|refine Below.alloc ?_ (by first|exact AD _|assumption|omega|(simp<;>omega)) _|refine BY ?_ (by first|exact AD _|assumption|omega|(simp<;>omega)) _|refine Bl ?_|refine A0d ?_ _)):P:=h
theorem EE{P:Prop}(h:P:=by omega):P:=h
theorem EF{P:Prop}(h:P:=by decide):P:=h
theorem EG{P:Prop}(h:P:=by kernel_rfl):P:=h
theorem EH{P:Prop}(h:P:=by simp):P:=h
def AA:=@Go.Lib.hid
def AB:=@List.setIfInBounds_toArray
def AC:=@decide_eq_false
def AD:=@Nat.le_refl
theorem AE{α:Type _}{x:α}{xs:List α}{a:α}:(x::xs).set 0 a=a::xs:=rfl
theorem AF{α:Type _}{x:α}{xs:List α}{i:Nat}{a:α}:(x::xs).set (i+1) a=x::xs.set i a:=rfl
def AG:=@decide_eq_true
def AH:=@beq_eq_false_iff_ne
def AI:=@Go.RowKit.Below.refl
def AJ:=@List.length_append
def AK:=@List.getD_eq_getElem?_getD
def AL:=@List.getElem?_eq_getElem
def AM:=@List.length_cons
def AN:=@List.append_assoc
def AO:=@Nat.lt_of_lt_of_le
theorem AP{α:Type _}{a:α}{i:Nat}{l:List α}:(a::l)[i+1]? =l[i]? :=rfl
def AQ:=@Nat.le_trans
theorem AR{α:Type _}{a:α}{l:List α}:(a::l)[0]? =some a:=rfl
def AS:=@Nat.zero_le
def AT:=@List.getElem?_toArray
def AU:=@List.eq_nil_of_length_eq_zero
def AV:=@List.length_take
def AW:=@List.length_map
def AX:=@List.take_of_length_le
def AY:=@Go.World.cell?_setCell_other
def AZ:=@List.length_drop
def Aa:=@List.take_succ_eq_append_getElem
def Ac:=@List.getElem_mem
def Ad:=@Go.World.ownsRow_nil
def Ae:=@List.getD_cons_zero
def Af:=@List.mem_append
def Ag:=@List.drop_eq_getElem_cons
def Ah:=@List.length_singleton
def Ai:=@Bool.and_eq_true
def Aj:=@List.cons_append
def Ak:=@ByteArray.size_extract
def Am:=@List.nil_append
def An:=@Nat.zero_add
def Ap:=@Go.ByteArray.toList_eq
def Aq:=@List.append_nil
def Ar:=@Go.World.size_alloc
def As:=@decide_eq_true_iff
def At:=@beq_iff_eq
def Au:=@List.drop_of_length_le
def Av:=@List.getElem?_eq_some_iff
def Aw:=@Option.some.inj
def Ax:=@List.mem_singleton
def Ay:=@Array.getElem?_eq_some_iff
def Az:=@List.drop_zero
def BC:=@List.take_append_drop
def BD:=@List.flatten_cons
def BE:=@Go.World.ownsRow.alloc
def BF:=@List.getD_cons_succ
def BG:=@List.merge_right
def BH:=@List.getElem?_append_right
def BI:=@List.flatMap_cons
def BJ:=@List.take_length
def BK:=@List.length_nil
def BL:=@Go.cell_one_new
def BM:=@List.map_append
def BN:=@List.nil_merge
def BO:=@List.length_pos_iff
def BP:=@Nat.eq_zero_or_pos
def BQ:=@Go.World.cell?_alloc_lt
def BR:=@Bool.eq_iff_iff
def BS:=@Go.Calls.regrown_of
def BT:=@List.getElem?_map
def BU:=@List.getElem?_drop
def BV:=@Int.eq_ofNat_of_zero_le
def BW:=@Go.cell_regrown
def BX:=@Nat.min_eq_left
def BY:=@Go.RowKit.Below.setCell
def BZ:=@Nat.mul_le_mul_right
def Ba:=@List.getElem?_take_of_lt
def Bb:=@List.cons_lt_cons_iff
def Bc:=@List.mem_range
def Be:=@bne_iff_ne
def Bf:=@List.getElem_map
def Bg:=@decide_eq_false_iff_not
def Bh:=@Nat.sub_zero
def Bi:=@List.getElem?_append_left
def Bj:=@List.length_set
def Bk:=@Nat.mod_eq_of_lt
def Bl:=@Go.RowKit.Below.drew
def Bm:=@List.mem_map_of_mem
def Bn:=@ByteArray.size_append
def Bo:=@UInt8.toNat_inj
def Bp:=@Go.RowKit.Below.heap_setCell
def Bq:=@List.getElem?_take
def Br:=@List.mem_cons
def Bs:=@List.take_zero
def Bt:=@UInt8.toNat_ofNat'
def Bu:=@List.mem_cons_self
def Bw:=@Nat.add_sub_cancel_left
def Bx:=@List.mem_of_getElem?
def By:=@List.mem_cons_of_mem
def Bz:=@List.take_left
def CA:=@of_decide_eq_true
def CB:=@Bool.or_eq_true
def CC:=@Option.map_some
def CD:=@if_false
def CE:=@List.map_map
def CF:=@Go.Lib.cell_of_heap
def CG:=@Nat.add_mul
def CH:=@UInt8.toNat_lt
def CI:=@List.mem_of_mem_take
def CJ:=@Go.World.cell?_of_block
def CK:=@Nat.le_mul_of_pos_right
def CL:=@Array.length_toList
def CM:=@List.take_succ_cons
def CN:=@Nat.add_zero
def CO:=@List.ext_getElem
def CP:=@List.all_eq_true
def CQ:=@Bool.false_eq_true
def CR:=@List.pairwise_cons
def CS:=@Nat.testBit_xor
def CT:=@Nat.lt_or_ge
def CU:=@List.mem_of_mem_eraseIdx
def CV:=@decide_eq_true_eq
def CW:=@List.pairwise_singleton
def CX:=@List.flatMap_append
def CY:=@Go.Lib.run_convert_string_bytes
def CZ:=@Option.map_eq_some_iff
def Ca:=@Nat.sub_self
def Cb:=@Go.mem_ready
def Cc:=@Nat.add_sub_cancel
def Cd:=@List.mem_append_right
def Ce:=@List.set_append_right
def Cf:=@List.take_add_one
def Cg:=@List.getLast?_eq_getElem?
def Ch:=@Nat.pow_le_pow_right
def Ci:=@List.mem_or_eq_of_mem_set
def Cj:=@Bool.and_false
def Ck:=@Nat.mul_comm
def Cl:=@Nat.succ_mul
def Cn:=@Nat.testBit_succ
def Co:=@List.take_append
def Cp:=@List.all_reverse
def Cq:=@List.length_take_le
def Cr:=@Nat.mod_eq_sub_mod
def Cs:=@Nat.eq_or_lt_of_le
def Ct:=@Nat.one_mul
def Cu:=@List.take_append_of_le_length
def Cv:=@List.drop_append_of_le_length
def Cw:=@List.reverse_cons
def Cx:=@List.size_toArray
def Cy:=@Array.getElem_mem
def Cz:=@List.lt_irrefl
def DA:=@List.mem_map
def DB:=@Nat.add_comm
def DC:=@List.idxOf_lt_length_of_mem
def DD:=@Go.World.ownsRow.lt
def DE:=@List.drop_length
def DF:=@Go.Region.noSelect_spec
def DG:=@Nat.mod_two_eq_zero_or_one
def DH:=@List.all_cons
def DI:=@Nat.le_succ
def DJ:=@if_true
def DK:=@Go.Lib.bytesWorld_cell
def DL:=@List.isEmpty_eq_false_iff
def DM:=@Array.getElem?_eq_getElem
def DN:=@Nat.not_lt_zero
def DO:=@List.pairwise_iff_getElem
def DP:=@List.head?_drop
def DQ:=@List.getElem_append_left
def DR:=@Nat.xor_lt_two_pow
def DS:=@Nat.le_of_eq
def DT:=@Go.World.ownsRow.form
def DU:=@Go.heap_alloc_new
def DV:=@Nat.mod_lt
def DW:=@List.take_take
def DX:=@List.drop_take
def DY:=@List.drop_left
def DZ:=@List.eraseIdx_cons_succ
def Da:=@List.getElem_take
def Db:=@Bool.not_eq_true'
def Dc:=@List.foldl_append
def De:=@Nat.lt_trichotomy
def Df:=@Array.any_eq_true
def Dg:=@List.not_lt
def Dh:=@List.drop_eq_nil_of_le
def Di:=@List.merge_perm_append
def Dj:=@Nat.add_assoc
def Dk:=@Go.below_regrown
def Dl:=@List.not_mem_nil
def Dm:=@List.isEmpty_iff
def Dn:=@Go.Region.free_spec
def Do:=@List.getElem_set
def Dp:=@List.length_filter_le
def Dq:=@Nat.pow_succ
def Dr:=@List.set_set
theorem C0a{P:Prop}(h:P:=by
 have hx:xs=[]:=AU (by have:=h.1;omega)
 subst hx
 exact⟨none,0,rfl,AD _,AS _,Rd.nil_⟩
 ):P:=h
theorem C2c{P:Prop}(h:P:=by
 rw[AK,Ba ht,BU,←AK]
 ):P:=h
theorem A0d{B:Nat}{a w:World}(h:Below B a w)(n:Nat):Below B a (w.drewN n):=h.trans ⟨rfl,rfl,rfl,AD _,fun _ _=>rfl⟩
theorem A0z(a:Addr)(n:Nat):(a.add n).block=a.block:=by unfold Addr.add;split<;>rfl
theorem A2A(a:Addr)(i j:Nat):(a.add i).add j=a.add (i+j):=by
 unfold Addr.add
 by_cases hi:i=0<;>by_cases hj:j=0<;>simp[hi,hj,Dj]
def Rd(w:World)(B size:Nat)(A:Option Addr)(n:Nat)(xs:List Value):Prop:=
 xs.length=n*size∧(0<n→∃ad,A=some ad∧ad.block<B∧∀j u,xs[j]? =some u→w.cell? (ad.add j)=some u)
section
variable {w w':World} {B B' size n:Nat} {A:Option Addr} {xs:List Value}
theorem Rd.nil_:Rd w B size A 0 []:=⟨by simp,fun h=>absurd h EE⟩
theorem Rd.at_{k:Nat}(h:Rd w B 1 A n xs)(hk:k<n):∃ad u,A=some ad∧ad.block<B∧xs[k]? =some u∧w.cell? (ad.add k)=some u:=by
 obtain⟨ad,e,hb,hc⟩:=h.2 EE
 have hl:k<xs.length:=by have:=h.1;omega
 exact⟨ad,xs[k],e,hb,AL hl,hc k _ (AL hl)⟩
theorem Rd.keep(h:Rd w B size A n xs)(hk:∀p:Addr,p.block<B→w'.cell? p=w.cell? p):Rd w' B size A n xs:=
 ⟨h.1,fun hn=>by
  obtain⟨ad,e,hb,hc⟩:=h.2 hn
  exact⟨ad,e,hb,fun j u hu=>(hk _ (by rw[A0z];exact hb)).trans (hc j u hu)⟩⟩
theorem Rd.more(h:Rd w B size A n xs)(hB:B≤B'):Rd w B' size A n xs:=
 ⟨h.1,fun hn=>by
  obtain⟨ad,e,hb,hc⟩:=h.2 hn
  exact⟨ad,e,by omega,hc⟩⟩
theorem Rd.below(h:Rd w B size A n xs)(hb:Below B w w'):Rd w' B size A n xs:=h.keep fun _ hp=>hb.cell hp
theorem Rd.drewN(h:Rd w B size A n xs)(k:Nat):Rd (w.drewN k) B size A n xs:=h
theorem Rd.alloc(h:Rd w B size A n xs)(hB:B≤w.heap.size)(o:Obj):Rd (w.alloc o) B size A n xs:=h.keep fun p hp=>BQ w o p (by omega)
theorem Rd.of_own{base:Nat}{e:TypeId}{c:Nat}(h:w.ownsRow base e size (.slice A n c) n xs):Rd w w.heap.size size A n xs:=by
 refine⟨h.1,fun hn=> ?_⟩
 obtain⟨g,cap,hv,_,hlt⟩:=h.form hn
 have hA:A=some ⟨g,0,none⟩:=by injection hv
 subst hA
 exact⟨_,rfl,hlt,h.cells (g:=g) rfl⟩
end
theorem B1i(w:World)(g i:Nat)(cs:Array Value)(t:TypeId)(hg:w.heap[g]? =some (.cells cs t (0,0))):w.cell? ((⟨g,0,none⟩:Addr).add i)=cs[i]? :=by
 have hadd:(⟨g,0,none⟩:Addr).add i=⟨g,i,none⟩:=by unfold Addr.add;split<;>simp_all
 rw[hadd,cell_of_row w g i cs t (0,0) hg]
theorem Rd.of_heap{w:World}{g:Nat}{cs:Array Value}{t:TypeId}{B size n:Nat}(hg:w.heap[g]? =some (.cells cs t (0,0)))(hB:g<B)(hn:cs.size=n*size):
 Rd w B size (some ⟨g,0,none⟩) n cs.toList:=
 ⟨by simpa using hn,fun _=>⟨_,rfl,hB,fun j u hu=>by rw[B1i w g j cs t hg];simpa using hu⟩⟩
theorem Rd.new_(w:World)(cs:Array Value)(t:TypeId){B size n:Nat}(hB:w.heap.size<B)(hn:cs.size=n*size):
 Rd (w.alloc (.cells cs t)) B size (some ⟨w.heap.size,0,none⟩) n cs.toList:=
 Rd.of_heap (DU w _) hB hn
theorem A0S{k:IntKind}{a b:Int}(h:a=b):Ending.returned (.int k a)= .returned (.int k b):=by rw[h]
theorem B1j{a b:Bool}(h:a=b):Ending.returned (.bool a)= .returned (.bool b):=by rw[h]
theorem A2Q{w w1:World}(hb:Below w.heap.size w w1):(∀b o,b<w.heap.size→w1.cell? ⟨b,o,none⟩=w.cell? ⟨b,o,none⟩)∧(∀b o,b<w.heap.size→w1.frozen? ⟨b,o,none⟩=w.frozen? ⟨b,o,none⟩):=
 ⟨fun b o h=>hb.cell (p:=⟨b,o,none⟩) h,fun b o h=>hb.frozen (p:=⟨b,o,none⟩) h⟩
theorem blen(s:ByteArray):s.data.toList.length=s.size:=by rw[CL];rfl
def byteCells(l:List UInt8):List Value:=l.map fun b=> .int .u8 (b.toNat:Int)
theorem A1V(w:World)(e:TypeId)(s:ByteArray):Below w.heap.size w (Lib.bytesWorld w e s):=
 ⟨rfl,rfl,rfl,by rw[Lib.bytesWorld_size];omega,fun k hk=>Lib.bytesWorld_at_old w e s k hk⟩
theorem A0B{w w':World}(h:∃p:Regrown,w'=Go.Sort.grow (redrawn w p.d) p.os):Below w.heap.size w w':=by
 obtain⟨p,rfl⟩:=h
 exact Dk w p.d p.os
theorem A0h{w w2 w3:World}(h:Below w.heap.size w w2)(k:Below w2.heap.size w2 w3):Below w.heap.size w w3:=h.trans (k.mono h.size)
theorem beqB(x y:ByteArray):(x.toList==y.toList)=decide (x=y):=by
 rw[Ap,Ap,BR,At,As]
 constructor
 ·intro h
  cases x;cases y
  simp only[ByteArray.mk.injEq]
  exact Array.toList_inj.1 h
 ·rintro rfl;rfl
def S(l:List UInt8):ByteArray:=⟨l.toArray⟩
def L(s:ByteArray):List UInt8:=s.data.toList
theorem L_S(l:List UInt8):L (S l)=l:=rfl
theorem S_L(s:ByteArray):S (L s)=s:=rfl
theorem A0e(s:ByteArray):(L s).length=s.size:=blen s
theorem B1e{a b:ByteArray}(h:L a=L b):a=b:=by have:=congrArg S h;exact this
theorem A3U(s t:ByteArray):L (s++t)=L s++L t:=by simp[L]
theorem A0x(s:ByteArray)(a b:Nat):L (s.extract a b)=((L s).drop a).take (b-a):=by simp[L,ByteArray.data_extract,Array.toList_extract,List.extract_eq_take_drop]
theorem B5f(l:List UInt8):(S l).data.toList=l:=rfl
theorem A0b(l:List UInt8):(S l).size=l.length:=by rw[←blen];rfl
theorem S_inj{a b:List UInt8}(h:S a=S b):a=b:=by have:=congrArg (fun s=>s.data.toList) h;exact this
theorem A2E(s:ByteArray)(a b:Nat):s.extract a b=S (((L s).drop a).take (b-a)):=by rw[←A0x];rfl
theorem A1i(s t:ByteArray):s++t=S (L s++L t):=by rw[←A3U];rfl
theorem A3V{P:Program}(w:World){src dst e:TypeId}(hs:P.underlying src=some (.slice e))(he:P.underlying e=some (.int .u8))(hd:P.underlying dst=some .string){A:Option Addr}{n c B:Nat}{l:List UInt8}(h:Rd w B 1 A n (byteCells l)):(convert src dst (.slice A n c)).run P w= .ok (.string ⟨l.toArray⟩) w:=by
 have hn:l.length=n:=by have:=h.1;simpa[byteCells] using this
 cases A with
 |none=>
  have h0:n=0:=by
   rcases BP n with h0|h0
   ·exact h0
   ·obtain⟨_,h1,_⟩:=h.2 h0;cases h1
  subst h0
  rw[AU hn]
  exact run_convert_bytes_nil w src e hs he 0 c dst hd
 |some ad=>
  subst hn
  refine run_convert_bytes_back w src dst e ad c l hs he hd fun j hj=> ?_
  obtain⟨ad',h1,_,h2⟩:=h.2 EE
  cases h1
  exact h2 j _ (by rw[byteCells,BT,AL hj];rfl)
theorem A3H{P:Program}{t:TypeId}(h:P.underlying t=some .string)(s:ByteArray)(i:Nat)(hi:i<s.size)(w:World):
 (Instr.index t (.string s) (.int .i64 (i:Int))).run P w= .ok (.int .u8 (((L s).getD i 0).toNat:Int)) w:=by
 rw[run_index_string w t s .i64 i h,dif_pos ⟨by omega,by omega⟩]
 have e:s[((i:Int)).toNat]'(by omega)=(L s).getD i 0:=by
  rw[AK,AL (by rw[A0e];exact hi)]
  rfl
 rw[e]
theorem B1k{P:Program}{src dst e:TypeId}(hs:P.underlying src=some (.slice e))(he:P.underlying e=some (.int .u8))(hd:P.underlying dst=some .string)(w:World)(cs:Array Value)(l:List UInt8)(n c:Nat)(h:cs.toList=byteCells l)(hn:l.length=n):
 (convert src dst (.slice (some ⟨w.heap.size,0,none⟩) n c)).run P (w.alloc (.cells cs e))= .ok (.string (S l)) (w.alloc (.cells cs e)):=
 A3V _ hs he hd (A:=some ⟨w.heap.size,0,none⟩) (B:=w.heap.size+1) (l:=l)
  (by rw[←h];exact Rd.new_ (size:=1) w _ _ (Nat.lt_succ_self _) (by rw[←CL,h,byteCells,AW,hn];omega))
theorem A1l{w w':World}{base:Nat}{e:TypeId}{size:Nat}{v:Value}{n:Nat}{xs:List Value}(h:w.ownsRow base e size v n xs)(hb:Below w.heap.size w w'):w'.ownsRow base e size v n xs:=
 h.kept (row:=none) ⟨hb.os,hb.tape,hb.output,hb.size,fun k hk _=>hb.block k hk⟩ (by cases hv:v.ownBlock<;>simp)
theorem A1a{w:World}{base:Nat}{e:TypeId}{size:Nat}{v:Value}{n:Nat}{xs:List Value}(h:w.ownsRow base e size v n xs)(k:Nat):(w.drewN k).ownsRow base e size v n xs:=h
theorem A3a{w:World}{base base':Nat}{e:TypeId}{size:Nat}{v:Value}{n:Nat}{xs:List Value}(h:w.ownsRow base e size v n xs)(hb:base'≤base):w.ownsRow base' e size v n xs:=by
 refine⟨h.1, ?_⟩
 rcases h.2 with h|⟨g,cap,cur,h1,h2,h3⟩
 ·exact .inl h
 ·exact .inr ⟨g,cap,cur,h1,by omega,h3⟩
theorem A1e{w:World}{base:Nat}{e:TypeId}{size:Nat}{v:Value}{n:Nat}{xs:List Value}(h:w.ownsRow base e size v n xs):∃A c,v= .slice A n c∧n≤c∧c≤maxLen∧Rd w w.heap.size size A n xs:=by
 have h0:=h
 rcases h.2 with⟨rfl,rfl⟩|⟨g,cap,cur,rfl,h2,h3,h4,h5,_⟩
 ·exact C0a
 ·exact⟨_,cap,rfl,h4,h5,Rd.of_own h0⟩
theorem B3Z{P:Program}{w:World}{ops:Array Oper}{rest:List Oper}{o:Oper}{a:Act}{Q:Exit→Act→World→Prop}(hgd:o.guard=none)(s x:Operand)(t:TypeId)(ho:o.op= .call {callee:= .builtin .append,args:= #[s,x],argTypes:= #[t,t]})(base:Nat)(e:TypeId)(i:TypeInfo)(z:Value)(size bytes:Nat)(ht:P.underlying t=some (.slice e))(hi:P.info? e=some i)(hz:i.zero=some z)(hsize:i.size=size)(hby:i.bytes=bytes)(hzs:z.cells.size=size)(hsz:0<size)(v:Value)(n:Nat)(xs:List Value)(hs:a.eval s=v)(hown:w.ownsRow base e size v n xs)(ad:Addr)(m c:Nat)(news:List Value)(hx:a.eval x= .slice (some ad) m c)(hl:news.length=m*size)(hnews:∀j u,news[j]? =some u→w.cell? (ad.add j)=some u)(h1:∀u∈news,u.oneCell'=true)(hbytes:(n+m)*bytes≤140737488355328)(hb0:0<bytes)(hbase:base≤w.heap.size)(h:∀v' w',w'.ownsRow base e size v' (n+m) (xs++news)→Below base w w'→wpList P ops Q rest (a.put o.dst v') w'):wpList P ops Q (o::rest) a w:=
 wpList_append_own w hgd s x t ho base e i z size bytes ht hi hz hsize hby hzs hsz v n xs hs hown ad m c news hx hl hnews h1
  (by have:=CK (n+m) hb0;unfold maxLen;omega) hbytes hbase
  fun v' w' h2 h3 _=>h v' w' h2 ((AI base w).grown h3 hbase (fun k hk=>(hown.lt k hk).1))
theorem A9p{P:Program}(w:World){base:Nat}{t ty e:TypeId}{i:TypeInfo}{size:Nat}(ht:P.underlying t=some (.slice e))(hi:P.info? e=some i){v:Value}{n:Nat}{xs:List Value}(hown:w.ownsRow base e size v n xs)(c:Nat):(Builtin.append_ #[t,t] ty #[v,.slice none 0 c]).run P w= .ok v w:=by
 rcases hown.2 with⟨rfl,rfl⟩|⟨g,cap,cur,rfl,_,_,hnc,_⟩
 ·simp[Builtin.append_,run_underlying ht,sizeOf,typeInfo,hi,Builtin.lenOf,Builtin.firstCells]
 ·simp[Builtin.append_,run_underlying ht,sizeOf,typeInfo,hi,Builtin.lenOf,Builtin.firstCells,hnc,storeCells]
theorem B5g{P:Program}{w:World}{base:Nat}{t ty e:TypeId}{i:TypeInfo}{z:Value}{size bytes:Nat}(ht:P.underlying t=some (.slice e))(hi:P.info? e=some i)(hz:i.zero=some z)(hsize:i.size=size)(hby:i.bytes=bytes)(hzs:z.cells.size=size)(hsz:0<size){v:Value}{n:Nat}{xs:List Value}(hown:w.ownsRow base e size v n xs){B:Nat}{A:Option Addr}{m c:Nat}{news:List Value}(hr:Rd w B size A m news)(h1:∀u∈news,u.oneCell'=true)(hbytes:(n+m)*bytes≤140737488355328)(hb0:0<bytes)(hbase:base≤w.heap.size):
 ∃v' w',(Builtin.append_ #[t,t] ty #[v,.slice A m c]).run P w= .ok v' w'∧w'.ownsRow base e size v' (n+m) (xs++news)∧Below base w w':=by
 have h63:n+m≤maxLen:=by have:=CK (n+m) hb0;unfold maxLen;omega
 cases A with
 |none=>
  have hm:m=0:=by
   rcases BP m with h0|h0
   ·exact h0
   ·obtain⟨ad,h,_⟩:=hr.2 h0;cases h
  subst hm
  have hn:news=[]:=AU (by simpa using hr.1)
  subst hn
  exact⟨v,w,A9p w ht hi hown c,by simpa using hown,AI _ _⟩
 |some ad=>
  have hcells:∀j u,news[j]? =some u→w.cell? (ad.add j)=some u:=by
   intro j u hu
   rcases BP m with h0|h0
   ·subst h0
    have hn:news=[]:=AU (by simpa using hr.1)
    subst hn;simp at hu
   ·obtain⟨ad',h,_,hc⟩:=hr.2 h0
    cases h
    exact hc j u hu
  obtain⟨v',w',hrun,h2,h3,_⟩:=run_append_own (P:=P) w base t ty e i z size bytes ht hi hz hsize hby hzs hsz v n xs hown ad m c news hr.1 hcells h1 h63 hbytes hbase
  exact⟨v',w',hrun,h2,(AI base w).grown h3 hbase (fun k hk=>(hown.lt k hk).1)⟩
theorem B7p{P:Program}{w:World}{o:Oper}{a:Act}{K:Act→World→Prop}{Q:Exit→Act→World→Prop}(s x:Operand)(t:TypeId)(ho:o.op= .call {callee:= .builtin .append,args:= #[s,x],argTypes:= #[t,t]})(base:Nat)(e:TypeId)(i:TypeInfo)(z:Value)(size bytes:Nat)(ht:P.underlying t=some (.slice e))(hi:P.info? e=some i)(hz:i.zero=some z)(hsize:i.size=size)(hby:i.bytes=bytes)(hzs:z.cells.size=size)(hsz:0<size)(v:Value)(n:Nat)(xs:List Value)(hs:a.eval s=v)(hown:w.ownsRow base e size v n xs)(B:Nat)(A:Option Addr)(m c:Nat)(news:List Value)(hx:a.eval x= .slice A m c)(hr:Rd w B size A m news)(h1:∀u∈news,u.oneCell'=true)(hbytes:(n+m)*bytes≤140737488355328)(hb0:0<bytes)(hbase:base≤w.heap.size)(h:∀v' w',w'.ownsRow base e size v' (n+m) (xs++news)→Below base w w'→K (a.put o.dst v') w'):o.wp P a w K Q:=by
 obtain⟨v',w',hrun,h2,h3⟩:=B5g (P:=P) (ty:=o.type) ht hi hz hsize hby hzs hsz hown (c:=c) hr h1 hbytes hb0 hbase
 unfold Oper.wp execOp
 simp only[ho,resolve,invoke,builtin,Sem.run_bind,Sem.run_pure,Result.andThen_ok,List.map_toArray,List.map_cons,List.map_nil,hs,hx,hrun]
 exact h v' w' h2 h3
theorem A5l{P:Program}{w:World}{ops:Array Oper}{rest:List Oper}{o:Oper}{a:Act}{Q:Exit→Act→World→Prop}(hgd:o.guard=none)(s x:Operand)(t:TypeId)(ho:o.op= .call {callee:= .builtin .append,args:= #[s,x],argTypes:= #[t,t]})(base:Nat)(e:TypeId)(i:TypeInfo)(z:Value)(size bytes:Nat)(ht:P.underlying t=some (.slice e))(hi:P.info? e=some i)(hz:i.zero=some z)(hsize:i.size=size)(hby:i.bytes=bytes)(hzs:z.cells.size=size)(hsz:0<size)(v:Value)(n:Nat)(xs:List Value)(hs:a.eval s=v)(hown:w.ownsRow base e size v n xs)(B:Nat)(A:Option Addr)(m c:Nat)(news:List Value)(hx:a.eval x= .slice A m c)(hr:Rd w B size A m news)(h1:∀u∈news,u.oneCell'=true)(hbytes:(n+m)*bytes≤140737488355328)(hb0:0<bytes)(hbase:base≤w.heap.size)(h:∀v' w',w'.ownsRow base e size v' (n+m) (xs++news)→Below base w w'→wpList P ops Q rest (a.put o.dst v') w'):wpList P ops Q (o::rest) a w:=
 wpList_plain hgd fun _ hK=>B7p s x t ho base e i z size bytes ht hi hz hsize hby hzs hsz v n xs hs hown B A m c news hx hr h1 hbytes hb0 hbase fun v' w' h2 h3=>hK _ _ (h v' w' h2 h3)
end Go.Proofs.YtplgghjdidmcfaaGreatDoor
namespace Go.Proofs.YtplgghjdidmcfaaGreatDoor
def Bd(s:List UInt8)(n k:Nat):Prop:=k≤n∧∀j,j<k→s.getD (n-k+j) 0=s.getD j 0
instance (s:List UInt8) (n k:Nat):Decidable (Bd s n k):=inferInstanceAs (Decidable (_∧_))
theorem Bd.zero(s:List UInt8)(n:Nat):Bd s n 0:=⟨AS _,fun _ h=>absurd h EE⟩
theorem Bd.succ{s:List UInt8}{n k:Nat}:Bd s (n+1) (k+1)↔Bd s n k∧s.getD k 0=s.getD n 0:=by
 constructor
 ·intro h
  refine⟨⟨by have:=h.1;omega,fun j hj=> ?_⟩, ?_⟩
  ·have:=h.2 j EE
   rw[show n+1-(k+1)+j=n-k+j by omega] at this;exact this
  ·have:=h.2 k EE
   rw[show n+1-(k+1)+k=n by have:=h.1;omega] at this;exact this.symm
 ·rintro⟨h,he⟩
  refine⟨by have:=h.1;omega,fun j hj=> ?_⟩
  rw[show n+1-(k+1)+j=n-k+j by omega]
  by_cases hjk:j=k
  ·subst hjk
   rw[show n-j+j=n by have:=h.1;omega];exact he.symm
  ·exact h.2 j (by omega)
theorem Bd.down{s:List UInt8}{n k k':Nat}(h:Bd s n k)(h':Bd s n k')(hk:k'≤k):Bd s k k':=by
 refine⟨hk,fun j hj=> ?_⟩
 have h1:=h'.2 j hj
 have h2:=h.2 (k-k'+j) EE
 have:=h.1
 rw[show n-k+(k-k'+j)=n-k'+j by omega] at h2
 rw[←h2,h1]
theorem Bd.up{s:List UInt8}{n k k':Nat}(h:Bd s n k)(h':Bd s k k'):Bd s n k':=by
 refine⟨AQ h'.1 h.1,fun j hj=> ?_⟩
 have:=h.1;have:=h'.1
 have h1:=h'.2 j hj
 have h2:=h.2 (k-k'+j) EE
 rw[show n-k+(k-k'+j)=n-k'+j by omega] at h2
 rw[h2,h1]
def fbF(s:List UInt8)(n:Nat):Nat→Nat
 |0=>0
 |k+1=>if Bd s n (k+1) then k+1 else fbF s n k
def fb(s:List UInt8)(n:Nat):Nat:=fbF s n (n-1)
theorem B5h(s:List UInt8)(n:Nat):∀k,fbF s n k≤k
 |0=>AD _
 |k+1=>by
  unfold fbF;split
  ·exact AD _
  ·exact AQ (B5h s n k) (DI k)
theorem B5i(s:List UInt8)(n:Nat):∀k,Bd s n (fbF s n k)
 |0=>Bd.zero s n
 |k+1=>by
  unfold fbF;split
  ·assumption
  ·exact B5i s n k
theorem B3q(s:List UInt8)(n:Nat):∀k j,j≤k→Bd s n j→j≤fbF s n k
 |0,j,hj,_=>by omega
 |k+1,j,hj,hb=>by
  unfold fbF;split
  ·exact hj
  ·rename_i hn
   refine B3q s n k j ?_ hb
   by_cases hjk:j=k+1
   ·subst hjk;exact absurd hb hn
   ·omega
theorem A4c(s:List UInt8){n:Nat}(h:0<n):fb s n<n:=by
 have:=B5h s n (n-1);unfold fb;omega
theorem A7u(s:List UInt8)(n:Nat):Bd s n (fb s n):=B5i s n _
theorem A5Y{s:List UInt8}{n j:Nat}(hj:j<n)(h:Bd s n j):j≤fb s n:=B3q s n _ _ EE h
theorem fb_eq{s:List UInt8}{n k:Nat}(hk:k<n)(h:Bd s n k)(hm:∀j,j<n→Bd s n j→j≤k):fb s n=k:=
 Nat.le_antisymm (hm _ (A4c s EE) (A7u s n)) (A5Y hk h)
theorem fb_one(s:List UInt8):fb s 1=0:=rfl
structure KmpAt (s:List UInt8) (i k:Nat):Prop where
 lt:k<i
 bd:Bd s i k
 mx:∀j,j<i→Bd s i j→s.getD j 0=s.getD i 0→j≤k
theorem KmpAt.start{s:List UInt8}{i:Nat}(h:0<i):KmpAt s i (fb s i):=⟨A4c s h,A7u s i,fun _ hj hb _=>A5Y hj hb⟩
theorem KmpAt.next{s:List UInt8}{i k:Nat}(h:KmpAt s i k)(hk:0<k)(hne:s.getD k 0≠s.getD i 0):KmpAt s i (fb s k):=by
 have h1:=A4c s hk
 have hl:=h.lt
 refine⟨by omega,h.bd.up (A7u s k),fun j hj hb he=> ?_⟩
 have h2:=h.mx j hj hb he
 have h3:j≠k:=fun e=>hne (e▸he)
 exact A5Y EE (h.bd.down hb h2)
theorem KmpAt.hit{s:List UInt8}{i k:Nat}(h:KmpAt s i k)(he:s.getD k 0=s.getD i 0):fb s (i+1)=k+1:=by
 refine fb_eq (by have:=h.lt;omega) (Bd.succ.2 ⟨h.bd,he⟩) fun j hj hb=> ?_
 cases j with
 |zero=>omega
 |succ j=>
  obtain⟨h1,h2⟩:=Bd.succ.1 hb
  have:=h.mx j EE h1 h2
  omega
theorem KmpAt.miss{s:List UInt8}{i:Nat}(h:KmpAt s i 0)(hne:s.getD 0 0≠s.getD i 0):fb s (i+1)=0:=by
 refine fb_eq EE (Bd.zero _ _) fun j hj hb=> ?_
 cases j with
 |zero=>omega
 |succ j=>
  obtain⟨h1,h2⟩:=Bd.succ.1 hb
  have h3:=h.mx j EE h1 h2
  have:j=0:=EE
  subst this
  exact absurd h2 hne
def A8n(s:List UInt8)(m:Nat):List Nat:=(List.range m).map fun i=>fb s (i+1)
theorem B5j(s:List UInt8)(m:Nat):(A8n s m).length=m:=by simp[A8n]
theorem B7q(s:List UInt8)(m i:Nat)(h:i<m):(A8n s m)[i]? =some (fb s (i+1)):=by simp[A8n,h]
def perB(s:List UInt8)(p:Nat):Bool:=decide (Bd s s.length (s.length-p))
def pers(s:List UInt8):Nat→List Nat
 |0=> []
 |m+1=>if 0<m∧perB s m=true then pers s m++ [m] else pers s m
theorem A6K{s:List UInt8}{a:Nat}:∀{b:Nat},a≤b→(∀p,a≤p→p<b→¬(0<p∧perB s p=true))→pers s b=pers s a
 |0,hab,_=>by
  have:a=0:=EE
  subst this;rfl
 |b+1,hab,h=>by
  by_cases he:a=b+1
  ·subst he;rfl
  ·rw[pers,if_neg (h b EE EE)]
   exact A6K EE fun p h1 h2=>h p h1 (by omega)
theorem A7X{s:List UInt8}{p:Nat}:∀{m:Nat},p∈pers s m↔0<p∧p<m∧perB s p=true
 |0=>by simp[pers]
 |m+1=>by
  rw[pers]
  split
  ·rename_i h
   rw[Af,A7X,Ax]
   constructor
   ·rintro(⟨h1,h2,h3⟩|rfl)
    ·exact⟨h1,by omega,h3⟩
    ·exact⟨h.1,by omega,h.2⟩
   ·rintro⟨h1,h2,h3⟩
    by_cases he:p=m
    ·exact .inr he
    ·exact .inl ⟨h1,by omega,h3⟩
  ·rename_i h
   rw[A7X]
   constructor
   ·rintro⟨h1,h2,h3⟩;exact⟨h1,by omega,h3⟩
   ·rintro⟨h1,h2,h3⟩
    refine⟨h1, ?_,h3⟩
    by_cases he:p=m
    ·subst he;exact absurd ⟨h1,h3⟩ h
    ·omega
theorem B5k{s:List UInt8}{k:Nat}(hk:0<k)(hl:k<s.length)(hb:Bd s s.length k):pers s (s.length-fb s k)=pers s (s.length-k)++ [s.length-k]:=by
 have h1:=A4c s hk
 have e:pers s (s.length-k+1)=pers s (s.length-k)++ [s.length-k]:=by
  rw[pers,if_pos ⟨by omega,by unfold perB;rw[CV,show s.length-(s.length-k)=k by omega];exact hb⟩]
 rw[←e]
 refine A6K EE fun p h2 h3 h4=> ?_
 have h5:Bd s s.length (s.length-p):=by have:=h4.2;unfold perB at this;exact CA this
 have:=A5Y (s:=s) (n:=k) (j:=s.length-p) EE (hb.down h5 EE)
 omega
theorem B4a{s:List UInt8}(h:0<s.length):pers s (s.length-fb s s.length)=[]:=by
 have h0:pers s 1=[]:=by simp[pers]
 have h1:=A4c s h
 rw[←h0]
 refine A6K EE fun p h2 h3 h4=> ?_
 have h5:Bd s s.length (s.length-p):=by have:=h4.2;unfold perB at this;exact CA this
 have:=A5Y (s:=s) (n:=s.length) (j:=s.length-p) EE h5
 omega
theorem B7r{s:List UInt8}(h:0<s.length):pers s (s.length+1)=pers s s.length++ [s.length]:=by
 rw[pers,if_pos ⟨h,by unfold perB;rw[CV,Ca];exact Bd.zero _ _⟩]
theorem B2H{s:List UInt8}{n k:Nat}(hk:k≤n)(hn:n≤s.length):Bd s n k↔s.take k=(s.take n).drop (n-k):=by
 constructor
 ·intro h
  apply CO
  ·simp only[AV,AZ];omega
  ·intro i h1 h2
   simp only[AV] at h1
   have:=h.2 i EE
   rw[Da,List.getElem_drop,Da]
   rw[AK,AL EE,AK,AL EE] at this
   exact this.symm
 ·intro h
  refine⟨hk,fun j hj=> ?_⟩
  have:=congrArg (fun l=>l.getD j 0) h
  simp only[AK,BU] at this⊢
  rw[Ba EE,Ba EE] at this
  exact this.symm
def LyP(s:List UInt8)(at_ n:Nat):Prop:=0<n∧∀d,0<d→d<n→∃j,d+j<n∧(∀i,i<j→s.getD (at_+i) 0=s.getD (at_+d+i) 0)∧s.getD (at_+j) 0<s.getD (at_+d+j) 0
structure DuAt (s:List UInt8) (at_ i k:Nat):Prop where
 le:at_≤i
 lt:i<k
 per:∀j,j<i-at_→s.getD (at_+(k-i)+j) 0=s.getD (at_+j) 0
 ly:LyP s at_ (k-i)
theorem DuAt.start(s:List UInt8)(at_:Nat):DuAt s at_ at_ (at_+1):=⟨AD _,by omega,fun j h=>by omega,⟨by omega,fun d h1 h2=>by omega⟩⟩
theorem DuAt.same{s:List UInt8}{at_ i k:Nat}(h:DuAt s at_ i k)(he:s.getD i 0=s.getD k 0):DuAt s at_ (i+1) (k+1):=by
 have h1:=h.le;have h2:=h.lt
 refine⟨by omega,by omega,fun j hj=> ?_,by rw[show k+1-(i+1)=k-i by omega];exact h.ly⟩
 rw[show k+1-(i+1)=k-i by omega]
 by_cases hji:j=i-at_
 ·subst hji
  rw[show at_+(k-i)+(i-at_)=k by omega,show at_+(i-at_)=i by omega];exact he.symm
 ·exact h.per j (by omega)
theorem DuAt.mod_{s:List UInt8}{at_ i k:Nat}(h:DuAt s at_ i k):∀j,j<k-at_→s.getD (at_+j) 0=s.getD (at_+j%(k-i)) 0:=by
 have h1:=h.le;have h2:=h.lt
 intro j
 induction j using Nat.strongRecOn with
 |ind j ih=>
  intro hj
  by_cases hp:j<k-i
  ·rw[Bk hp]
  ·have e1:=h.per (j-(k-i)) EE
   rw[show at_+(k-i)+(j-(k-i))=at_+j by omega] at e1
   rw[e1,ih (j-(k-i)) EE EE,Cr (a:=j) EE]
theorem DuAt.less{s:List UInt8}{at_ i k:Nat}(h:DuAt s at_ i k)(hl:s.getD i 0<s.getD k 0):DuAt s at_ at_ (k+1):=by
 have h1:=h.le;have h2:=h.lt
 refine⟨AD _,by omega,fun j hj=>by omega,⟨by omega,fun d hd0 hd=> ?_⟩⟩
 have hpp:0<k-i:=EE
 have hM:=h.mod_
 generalize hp:k-i=p at*
 have hL:∃L,L=k-at_:=⟨_,rfl⟩
 obtain⟨L,hL⟩:=hL
 have hkL:k=at_+L:=EE
 have hiL:i=at_+(L-p):=EE
 have hpL:p≤L:=EE
 subst hkL hiL
 rw[show at_+L-at_=L by omega] at hM
 have hr:=DV d hpp
 have hdv:=Nat.div_add_mod d p
 have hnew:∀t,t<p→(d+t)%p=L%p→d+t=L→s.getD (at_+(L-p)) 0=s.getD (at_+(d%p+t)%p) 0:=by
  intro t _ _ h3
  rw[hM (L-p) EE]
  congr 2
  rw[←Cr (a:=L) hpL,←h3,Nat.add_mod]
  exact Nat.add_mod_mod _ _ _
 by_cases hr0:d%p=0
 ·refine⟨L-d,by omega,fun q hq=> ?_, ?_⟩
  ·rw[hM q EE,show at_+d+q=at_+(d+q) by omega,hM (d+q) EE]
   congr 2
   rw[Nat.add_mod,hr0,An,Nat.mod_mod]
  ·rw[show at_+d+(L-d)=at_+L by omega]
   have e1:s.getD (at_+(L-d)) 0=s.getD (at_+(L-p)) 0:=by
    by_cases hdL:d=L
    ·rw[hdL,Ca,hM 0 EE,hM (L-p) EE]
     congr 2
     rw[←Cr (a:=L) hpL,Nat.zero_mod,←hdL,hr0]
    ·rw[hM (L-d) EE,hM (L-p) EE]
     congr 2
     rw[←Cr (a:=L) hpL]
     have e2:L%p=(L-d)%p:=by
      conv=>lhs;rw[show L=d+(L-d) by omega]
      rw[Nat.add_mod,hr0,An,Nat.mod_mod]
     exact e2.symm
   rw[e1];exact hl
 ·obtain⟨j,hj1,hj2,hj3⟩:=h.ly.2 (d%p) EE (by rw[hp];exact hr)
  rw[hp] at hj1
  have hlow:∀q,d%p+q<p→d+q<L→s.getD (at_+d+q) 0=s.getD (at_+d%p+q) 0:=by
   intro q h3 h4
   rw[show at_+d+q=at_+(d+q) by omega,hM (d+q) h4,show at_+d%p+q=at_+(d%p+q) by omega]
   congr 2
   have e3:(d+q)%p=(d%p+q)%p:=by
    conv=>lhs;rw[Nat.add_mod]
    conv=>rhs;rw[Nat.add_mod,Nat.mod_mod]
   rw[e3,Bk h3]
  by_cases hdj:d+j<L
  ·refine⟨j,by omega,fun q hq=> ?_, ?_⟩
   ·rw[hlow q EE EE];exact hj2 q hq
   ·rw[hlow j hj1 hdj];exact hj3
  ·refine⟨L-d,by omega,fun q hq=> ?_, ?_⟩
   ·rw[hlow q EE EE];exact hj2 q EE
   ·rw[show at_+d+(L-d)=at_+L by omega]
    have e4:=hnew (L-d) EE (by rw[show d+(L-d)=L by omega]) EE
    rw[Bk (show d%p+(L-d)<p by omega)] at e4
    rw[e4] at hl
    refine Nat.lt_of_le_of_lt ?_ hl
    by_cases hq:L-d=j
    ·rw[hq,show at_+(d%p+j)=at_+d%p+j by omega]
     exact Nat.le_of_lt hj3
    ·rw[hj2 (L-d) EE,show at_+d%p+(L-d)=at_+(d%p+(L-d)) by omega]
     exact AD _
theorem A6L:∀{j:Nat} {a b:List UInt8},j<a.length→j<b.length→(∀i,i<j→a.getD i 0=b.getD i 0)→a.getD j 0<b.getD j 0→a<b
 |_,[],_,h,_,_,_=>by cases h
 |_,_::_,[],_,h,_,_=>by cases h
 |0,x::a,y::b,_,_,_,h=>Bb.2 (.inl h)
 |j+1,x::a,y::b,h1,h2,h3,h4=>by
  have hxy:x=y:=h3 0 EE
  exact Bb.2 (.inr ⟨hxy,A6L (j:=j) (by simpa using h1) (by simpa using h2) (fun i hi=>by simpa using h3 (i+1) EE) (by simpa using h4)⟩)
theorem A7K(u:List UInt8)(m:Nat):¬u<u.take m:=by
 induction u generalizing m with
 |nil=>simp
 |cons x u ih=>
  cases m with
  |zero=>simp
  |succ m=>
   rw[CM,Bb]
   rintro(h|⟨_,h⟩)
   ·exact absurd h (UInt8.lt_irrefl x)
   ·exact ih m h
theorem A7Y{u a b:List UInt8}(h:a<b):u++a<u++b:=by
 induction u with
 |nil=>exact h
 |cons x u ih=>exact Bb.2 (.inr ⟨rfl,ih⟩)
def turn(s:List UInt8)(k:Nat):List UInt8:=s.drop k++s.take k
def lynB(s:List UInt8):Bool:= !s.isEmpty&&(List.range s.length).all fun k=>k==0|| !(decide (turn s k<s)||decide (turn s k=s))
theorem A6n{s:List UInt8}:lynB s=true↔s≠ []∧∀k,0<k→k<s.length→¬turn s k<s∧turn s k≠s:=by
 unfold lynB
 rw[Ai,CP]
 constructor
 ·rintro⟨h1,h2⟩
  refine⟨by rintro rfl;simp at h1,fun k h3 h4=> ?_⟩
  have:=h2 k (Bc.2 h4)
  simp only[CB,At,Db,Bool.or_eq_false_iff,Bg] at this
  rcases this with h5|h5
  ·omega
  ·exact h5
 ·rintro⟨h1,h2⟩
  refine⟨by cases s with
   |nil=>exact absurd rfl h1
   |cons a s=>rfl,fun k hk=> ?_⟩
  simp only[CB,At,Db,Bool.or_eq_false_iff,Bg]
  rcases BP k with h3|h3
  ·exact .inl h3
  ·exact .inr (h2 k h3 (Bc.1 hk))
def LyW(w:List UInt8):Prop:=LyP w 0 w.length
theorem B8B{w:List UInt8}(h:LyW w):lynB w=true:=by
 refine A6n.2 ⟨by rintro rfl;exact absurd h.1 EH,fun k h1 h2=> ?_⟩
 obtain⟨j,h3,h4,h5⟩:=h.2 k h1 h2
 have hlt:w<turn w k:=by
  have hg:∀i,k+i<w.length→(turn w k).getD i 0=w.getD (0+k+i) 0:=fun i hi=>by
   rw[turn,AK,Bi (by rw[AZ];omega),BU,←AK,An]
  refine A6L (j:=j) EE (by simp[turn];omega) (fun i hi=> ?_) ?_
  ·rw[hg i EE];have:=h4 i hi;rwa[An] at this
  ·rw[hg j h3];rwa[An] at h5
 exact⟨fun h6=>Cz _ (List.lt_trans hlt h6),fun h6=>Cz w (by rw[h6] at hlt;exact hlt)⟩
theorem B3r{s:List UInt8}{at_ n:Nat}(h:LyP s at_ n)(hn:at_+n≤s.length):LyW ((s.drop at_).take n):=by
 have hl:((s.drop at_).take n).length=n:=by rw[AV,AZ];omega
 have hg:∀i,i<n→((s.drop at_).take n).getD i 0=s.getD (at_+i) 0:=fun i hi=>by
  rw[AK,Ba hi,BU,←AK]
 unfold LyW
 rw[hl]
 refine⟨h.1,fun d h1 h2=> ?_⟩
 obtain⟨j,h3,h4,h5⟩:=h.2 d h1 h2
 refine⟨j,h3,fun i hi=> ?_, ?_⟩
 ·rw[An,hg i EE,An,hg (d+i) EE]
  have:=h4 i hi
  rwa[Dj] at this
 ·rw[An,hg j EE,An,hg (d+j) EE]
  rwa[Dj] at h5
def NIr(u R:List UInt8):Prop:=∀m,¬u<R.take m
structure SpAt (s:List UInt8) (out:List (List UInt8)) (at_:Nat):Prop where
 le:at_≤s.length
 fl:out.flatten=s.take at_
 ly:∀w∈out,LyW w
 ni:∀i (h:i+1<out.length),¬out[i]'(by omega)<out[i+1]
theorem SpAt.start(s:List UInt8):SpAt s [] 0:=⟨AS _,rfl,fun _ h=>(by cases h),fun _ h=>(by simp at h)⟩
theorem SpAt.add{s:List UInt8}{out:List (List UInt8)}{at_ p:Nat}(h:SpAt s out at_)(hp:LyP s at_ p)(hn:at_+p≤s.length)(hl:∀u,out.getLast? =some u→¬u<(s.drop at_).take p):
 SpAt s (out++ [(s.drop at_).take p]) (at_+p):=by
 refine⟨hn, ?_,fun w hw=> ?_,fun i hi=> ?_⟩
 ·rw[List.flatten_append,h.fl,BD,List.flatten_nil,Aq,List.take_add]
 ·rcases Af.1 hw with h1|h1
  ·exact h.ly w h1
  ·rw[Ax] at h1;subst h1;exact B3r hp hn
 ·simp only[AJ,Ah] at hi
  by_cases hi2:i+1<out.length
  ·rw[DQ EE,DQ hi2];exact h.ni i hi2
  ·have hio:i+1=out.length:=EE
   rw[DQ EE,List.getElem_append_right EE]
   simp only[hio,Ca,List.getElem_cons_zero]
   refine hl _ ?_
   rw[Cg,show out.length-1=i by omega,AL EE]
theorem ni_end{s:List UInt8}{at_ i k m:Nat}(h:DuAt s at_ i k)(hk:k≤s.length)(he:k<s.length→s.getD k 0<s.getD i 0)(hm:at_+m*(k-i)≤k)(hm1:1≤m)(hi:i<at_+m*(k-i)):
 NIr ((s.drop at_).take (k-i)) (s.drop (at_+m*(k-i))):=by
 have h1:=h.le;have h2:=h.lt
 have hM:=h.mod_
 have hpp:0<k-i:=EE
 generalize hp:k-i=p at*
 have hup:∀t,t<p→((s.drop at_).take p).getD t 0=s.getD (at_+t) 0:=fun t ht=>by
  exact C2c
 have hlu:((s.drop at_).take p).length=p:=by rw[AV,AZ];omega
 have hpm:p≤m*p:=Nat.le_mul_of_pos_left p hm1
 intro q hlt
 generalize hr:k-(at_+m*p)=r at*
 have hrp:r<p:=EE
 have hRg:∀t,at_+m*p+t<k→s.getD (at_+m*p+t) 0=s.getD (at_+t) 0:=fun t ht=>by
  rw[show at_+m*p+t=at_+(m*p+t) by omega,hM (m*p+t) EE,Ck m p,Nat.mul_add_mod,Bk EE]
 have hRq:∀t,t<q→((s.drop (at_+m*p)).take q).getD t 0=s.getD (at_+m*p+t) 0:=fun t ht=>by
  exact C2c
 by_cases hcase:q≤r∨k=s.length
 ·
  have hv:(s.drop (at_+m*p)).take q=((s.drop at_).take p).take (min q r):=by
   apply CO
   ·rw[AV,AV,hlu,AZ]
    rcases hcase with h3|h3<;>omega
   ·intro t ht1 ht2
    rw[AV,hlu] at ht2
    have e1:=hRq t EE
    rw[hRg t EE,←hup t EE] at e1
    have htp:t<((s.drop at_).take p).length:=EE
    rw[AK,AL ht1,AK,AL htp] at e1
    exact Eq.trans e1 Da.symm
  rw[hv] at hlt
  exact A7K _ _ hlt
 ·have hkn:k<s.length:=EE
  have hqr:r<q:=EE
  have hless:=he hkn
  have hkr:k=at_+m*p+r:=EE
  have hir:s.getD i 0=s.getD (at_+r) 0:=by
   have e2:i=at_+((m-1)*p+r):=by
    have:(m-1)*p+p=m*p:=by
     rw[←Cl];congr 1;omega
    omega
   rw[e2,hM ((m-1)*p+r) EE,Ck (m-1) p,Nat.mul_add_mod,Bk hrp]
  have hvu:(s.drop (at_+m*p)).take q<(s.drop at_).take p:=by
   refine A6L (j:=r) (by rw[AV,AZ];omega) (by rw[hlu];exact hrp) (fun t ht=> ?_) ?_
   ·rw[hRq t EE,hup t EE,hRg t EE]
   ·rw[hRq r hqr,hup r hrp,←hkr,←hir];exact hless
  exact Cz _ (List.lt_trans hlt hvu)
theorem B1l{out:List (List UInt8)}(h:∀i (h:i+1<out.length),¬out[i]'(by omega)<out[i+1]):∀(k:Nat) (hk:k<out.length) (h0:0<out.length),out[k]≤out[0]
 |0,_,_=>List.le_refl _
 |k+1,hk,h0=>by
  have h1:=B1l h k EE h0
  have h2:=h k hk
  exact List.le_trans (Dg.1 h2) h1
end Go.Proofs.YtplgghjdidmcfaaGreatDoor
namespace Go.Proofs.YtplgghjdidmcfaaGreatDoor
open Go.RowKit
def A0W(n:Nat):Int:=if 200<n then 2 else 0
def A1O(l:List ByteArray):Int:=if∃s∈l,200<s.size then 2 else 0
theorem A1t(s:ByteArray)(w:World):
 Calls Tryz.prog 134 #[.string s] w fun e w'=>e= .returned (.int .i64 (A0W s.size))∧Below w.heap.size w w':=by
 unfold A0W
 go_enter Tryz.func134,Tryz.ntmps134
 go_wp2
 all_goals go_ret
 all_goals refine⟨A0S ?_,AI _ _⟩
 all_goals rfl
theorem A5m(l:List ByteArray)(A:Option Addr)(n c B:Nat)(w:World)(hr:Rd w B 1 A n (l.map .string))(hn:n≤9223372036854775807):
 Calls Tryz.prog 154 #[.slice A n c] w fun e w'=>e= .returned (.int .i64 (A1O l))∧Below w.heap.size w w':=by
 have hlen:l.length=n:=by simpa using hr.1
 have HR:=AA hr;clear hr
 go_enter Tryz.func154,Tryz.ntmps154
 go_wp2
 go_loop [2,7] (fun _ i=>∃k:Nat,k≤n∧i= .int .i64 k∧∀s∈l.take k,¬200<s.size) (fun _ i=>n-(intOf i).toNat)
 case atStart=>exact⟨0,AS _,rfl,by simp⟩
 case round=>
  obtain⟨k,hk,rfl,hno⟩:=hrel
  have HNO:=AA hno;clear hno
  by_cases hlt:k<n
  ·obtain⟨ad,u,rfl,hb,hu,hc⟩:=HR.out.at_ hlt
   simp only[BT,CZ] at hu
   obtain⟨s,hs,rfl⟩:=hu
   by_cases h2:200<s.size
   ·have HL:Hid (A1O l=2):=by unfold Hid A1O;rw[if_pos ⟨s,Bx hs,h2⟩]
    clear hs
    go_wp2
    go_ret
    exact⟨A0S HL.out.symm,AI _ _⟩
   ·have HS:Hid (∀x∈l.take (k+1),¬200<x.size):=by
     intro x hx
     rw[Cf,hs] at hx
     simp only[Af,Option.toList_some,Ax] at hx
     rcases hx with hx|rfl
     ·exact HNO.out x hx
     ·exact h2
    clear hs
    go_wp2
    go_round
    case rel=>exact⟨k+1,by omega,by go_num,HS.out⟩
    case measure=>simp[intOf];omega
  ·have HL:Hid (A1O l=0):=by
    unfold Hid A1O
    rw[if_neg]
    rintro⟨s,hs,h2⟩
    exact HNO.out s (by rw[AX EE];exact hs) h2
   go_wp2
   go_ret
   exact⟨A0S HL.out.symm,AI _ _⟩
end Go.Proofs.YtplgghjdidmcfaaGreatDoor
