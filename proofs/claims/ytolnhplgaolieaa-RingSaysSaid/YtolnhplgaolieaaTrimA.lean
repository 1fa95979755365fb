/- trim.apply, walked. -/
import Derived.Test.YtolnhplgaolieaaTrim0
import Derived.Test.YtolnhplgaolieaaEditA
import Derived.Test.YtolnhplgaolieaaApp
namespace Go.Proofs.Ytolnhplgaolieaa
open Go.RowKit
def tcCell (c : Tc) : List Value := [.int .i64 c.1, .int .u8 (c.2.toNat : Int)]
def tcCells (l : List Tc) : List Value := l.flatMap tcCell
theorem tc_len (c : Tc) : (tcCell c).length = 2 := rfl
theorem tcCells_len (l : List Tc) : (tcCells l).length = l.length * 2 := flat_len tc_len l
theorem tcCells_app (a b : List Tc) : tcCells (a ++ b) = tcCells a ++ tcCells b := by simp [tcCells]
theorem tcCells_one (a : Int) (b : UInt8) : tcCells [(a, b)] = [.int .i64 a, .int .u8 (b.toNat : Int)] := by simp [tcCells, tcCell]
theorem tcCells_drop (l : List Tc) : ∀ k, tcCells (l.drop k) = (tcCells l).drop (k * 2) := by
  induction l with
  | nil => intro k; simp [tcCells]
  | cons c l ih =>
    intro k
    cases k with
    | zero => simp
    | succ k =>
      rw [List.drop_succ_cons, ih k, show tcCells (c :: l) = tcCell c ++ tcCells l from rfl, show (k + 1) * 2 = (tcCell c).length + k * 2 by rw [tc_len]; omega, List.drop_append]
      simp
theorem tcCells_take (l : List Tc) : ∀ k, tcCells (l.take k) = (tcCells l).take (k * 2) := by
  induction l with
  | nil => intro k; simp [tcCells]
  | cons c l ih =>
    intro k
    cases k with
    | zero => simp [tcCells]
    | succ k =>
      rw [List.take_succ_cons, show tcCells (c :: l.take k) = tcCell c ++ tcCells (l.take k) from rfl, ih k, show tcCells (c :: l) = tcCell c ++ tcCells l from rfl, show (k + 1) * 2 = (tcCell c).length + k * 2 by rw [tc_len]; omega, List.take_append, List.take_of_length_le (l := tcCell c) (by omega)]
      simp
theorem tc_one (l : List Tc) : ∀ v ∈ tcCells l, v.oneCell' = true := fun v h => by
  obtain ⟨c, _, hv⟩ := List.mem_flatMap.1 h
  simp only [tcCell, List.mem_cons, List.not_mem_nil, or_false] at hv
  rcases hv with rfl | rfl <;> rfl
theorem info_tc : (Try.prog.info? 161).map (fun i => (i.zero, i.size, i.bytes)) = some (some (.agg #[.int .i64 0, .int .u8 0]), 2, 16) := by kernel_rfl
theorem Rd.at_tc {w : World} {B n : Nat} {A : Option Addr} {l : List Tc} (h : Rd w B 2 A n (tcCells l)) {k : Nat} (hk : k < n) :
    ∃ ad, ∃ hl : k < l.length, A = some ad ∧ ad.block < B ∧ w.cell? (ad.add (k * 2)) = some (.int .i64 l[k].1) ∧ w.cell? ⟨(ad.add (k * 2)).block, (ad.add (k * 2)).off + 1, none⟩ = some (.int .u8 (l[k].2.toNat : Int)) := by
  obtain ⟨ad, hl, e, hb, hc⟩ := Rd.at_rec tc_len (by omega) h hk
  refine ⟨ad, hl, e, hb, hc 0 _ rfl, ?_⟩
  have h1 := hc 1 _ rfl
  rwa [← add_add] at h1
theorem size_run {P : Program} {e : TypeId} {i : TypeInfo} (hi : P.info? e = some i) (w : World) : (sizeOf e).run P w = .ok i.size w := by simp [sizeOf, typeInfo, hi, go_sem]
theorem run_part {P : Program} {t : TypeId} (ht : P.underlying t = some (.slice (P.elem t))) {size : Nat} (hz : (P.info? (P.elem t)).map (·.size) = some size) (A : Option Addr) (n c a b : Nat) (hab : a ≤ b) (hb : b ≤ c) (w : World) :
    (Instr.sliceAt t (.slice A n c) (some (.int .i64 (a : Int))) (some (.int .i64 (b : Int))) none).run P w = .ok (.slice (if c = a then A else A.map (·.add (a * size))) (b - a) (c - a)) w := by
  obtain ⟨i, hi, rfl⟩ := Option.map_eq_some_iff.1 hz
  rw [run_sliceAt_slice w t _ _ _ _ ht, run_slice_lh w t A n c ht .i64 .i64 a b (by omega) (by omega) (by omega)]
  rw [size_run hi, Result.andThen]
  simp [sliced]
theorem run_partL {P : Program} {t : TypeId} (ht : P.underlying t = some (.slice (P.elem t))) {size : Nat} (hz : (P.info? (P.elem t)).map (·.size) = some size) (A : Option Addr) (n c a : Nat) (hab : a ≤ n) (w : World) :
    (Instr.sliceAt t (.slice A n c) (some (.int .i64 (a : Int))) none none).run P w = .ok (.slice (if c = a then A else A.map (·.add (a * size))) (n - a) (c - a)) w := by
  obtain ⟨i, hi, rfl⟩ := Option.map_eq_some_iff.1 hz
  rw [run_sliceAt_slice w t _ _ _ _ ht, run_slice_l w t A n c ht .i64 a (by omega) (by omega)]
  rw [size_run hi, Result.andThen]
  simp [sliced]
/-- A part of a slice that reads. -/
theorem Rd.part {w : World} {B size n c : Nat} {A : Option Addr} {xs : List Value} (h : Rd w B size A n xs) {a b : Nat} (hab : a ≤ b) (hb : b ≤ n) (hc : n ≤ c) :
    Rd w B size (if c = a then A else A.map (·.add (a * size))) (b - a) ((xs.drop (a * size)).take ((b - a) * size)) := by
  refine ⟨?_, fun hn => ?_⟩
  · rw [List.length_take, List.length_drop, h.1, ← Nat.sub_mul]
    exact Nat.min_eq_left (Nat.mul_le_mul_right _ (by omega))
  · obtain ⟨ad, rfl, hbl, hcell⟩ := h.2 (by omega)
    rw [if_neg (by omega)]
    refine ⟨ad.add (a * size), rfl, by rw [blk_add]; exact hbl, fun j u hu => ?_⟩
    rw [add_add]
    have hj : j < (b - a) * size := by
      have := (List.getElem?_eq_some_iff.1 hu).1
      rw [List.length_take] at this; omega
    refine hcell _ u ?_
    rw [List.getElem?_take_of_lt hj, List.getElem?_drop] at hu
    exact hu
theorem Rd.part_tc {w : World} {B n c : Nat} {A : Option Addr} {l : List Tc} (h : Rd w B 2 A n (tcCells l)) {a b : Nat} (hab : a ≤ b) (hb : b ≤ n) (hc : n ≤ c) :
    Rd w B 2 (if c = a then A else A.map (·.add (a * 2))) (b - a) (tcCells ((l.drop a).take (b - a))) := by
  rw [tcCells_take, tcCells_drop]; exact h.part hab hb hc
/-- As wpList_appRd, and it is told which block turns. -/
theorem wpList_appRdG {P : Program} {w : World} {ops : Array Oper} {rest : List Oper} {o : Oper} {a : Act} {Q : Exit → Act → World → Prop} (hgd : o.guard = none) (s x : Operand) (t : TypeId)
    (ho : o.op = .call { callee := .builtin .append, args := #[s, x], argTypes := #[t, t] })
    (base : Nat) (e : TypeId) (i : TypeInfo) (z : Value) (size bytes : Nat) (ht : P.underlying t = some (.slice e)) (hi : P.info? e = some i) (hz : i.zero = some z)
    (hsize : i.size = size) (hby : i.bytes = bytes) (hzs : z.cells.size = size) (hsz : 0 < size)
    (v : Value) (n : Nat) (xs : List Value) (hs : a.eval s = v) (hown : w.ownsRow base e size v n xs)
    (B : Nat) (A : Option Addr) (m c : Nat) (news : List Value) (hx : a.eval x = .slice A m c) (hr : Rd w B size A m news) (h1 : ∀ u ∈ news, u.oneCell' = true)
    (hbytes : (n + m) * bytes ≤ 140737488355328) (hb0 : 0 < bytes) (hbase : base ≤ w.heap.size)
    (h : ∀ v' w', w'.ownsRow base e size v' (n + m) (xs ++ news) → w.grownBy w' v.ownBlock → Below base w w' → wpList P ops Q rest (a.put o.dst v') w') : wpList P ops Q (o :: rest) a w := by
  refine wpList_plain hgd fun _ hK => ?_
  have h63 : n + m ≤ maxLen := by have := Nat.le_mul_of_pos_right (n + m) hb0; unfold maxLen; omega
  have key : ∃ v' w', (Builtin.append_ #[t, t] o.type #[v, .slice A m c]).run P w = .ok v' w' ∧ w'.ownsRow base e size v' (n + m) (xs ++ news) ∧ w.grownBy w' v.ownBlock := by
    rcases Nat.eq_zero_or_pos m with h0 | h0
    · subst h0
      have hn : news = [] := List.eq_nil_of_length_eq_zero (by simpa using hr.1)
      subst hn
      cases A with
      | none => exact ⟨v, w, run_append_nil w ht hi hown c, by simpa using hown, gb_refl _ _⟩
      | some ad =>
        obtain ⟨v', w', hrun, h2, h3, _⟩ := run_append_own (P := P) w base t o.type e i z size bytes ht hi hz hsize hby hzs hsz v n xs hown ad 0 c [] (by simp) (by simp) (by simp) h63 hbytes hbase
        exact ⟨v', w', hrun, h2, h3⟩
    · obtain ⟨ad, rfl, _, hc⟩ := hr.2 h0
      obtain ⟨v', w', hrun, h2, h3, _⟩ := run_append_own (P := P) w base t o.type e i z size bytes ht hi hz hsize hby hzs hsz v n xs hown ad m c news hr.1 hc h1 h63 hbytes hbase
      exact ⟨v', w', hrun, h2, h3⟩
  obtain ⟨v', w', hrun, h2, h3⟩ := key
  unfold Oper.wp execOp
  simp only [ho, resolve, invoke, builtin, Sem.run_bind, Sem.run_pure, Result.andThen_ok, List.map_toArray, List.map_cons, List.map_nil, hs, hx, hrun]
  exact hK _ _ (h v' w' h2 h3 ((Below.refl base w).grown h3 hbase (fun k hk => (hown.lt k hk).1)))
/-- Block g holds these bytes, whatever its marks. -/
def Byt (w : World) (g : Nat) (x : List UInt8) : Prop := ∃ cs fz, w.heap[g]? = some (.cells cs 5 fz) ∧ ∀ j, j < x.length → cs[j]? = some (.int .u8 ((x.getD j 0).toNat : Int))
section
variable {w w' : World} {g : Nat} {x : List UInt8}
theorem Byt.lt (h : Byt w g x) : g < w.heap.size := by
  obtain ⟨_, _, h, _⟩ := h
  exact (Array.getElem?_eq_some_iff.1 h).1
theorem Byt.cell (h : Byt w g x) {j : Nat} (hj : j < x.length) : w.cell? ⟨g, j, none⟩ = some (.int .u8 ((x.getD j 0).toNat : Int)) := by
  obtain ⟨cs, fz, h, hc⟩ := h
  rw [cell_of_row w g j cs _ fz h, hc j hj]
theorem Byt.new_ (w : World) (s : ByteArray) : Byt (Lib.bytesWorld w 5 s) w.heap.size (L s) := by
  refine ⟨_, _, Lib.bytesWorld_at_new w _ s, fun j hj => ?_⟩
  have h1 := Lib.bytesWorld_cell w 5 s j (by rw [L_len] at hj; exact hj)
  rwa [cell_of_row _ _ j _ _ _ (Lib.bytesWorld_at_new w _ s)] at h1
theorem Byt.grown {row : Option Nat} (h : Byt w g x) (hb : w.grownBy w' row) (hg : some g ≠ row) : Byt w' g x := by
  have hl := h.lt
  obtain ⟨cs, fz, h, hc⟩ := h
  exact ⟨cs, fz, (hb.block g hl hg).trans h, hc⟩
theorem Byt.below (h : Byt w g x) (hb : Below w.heap.size w w') : Byt w' g x := by
  have hl := h.lt
  obtain ⟨cs, fz, h, hc⟩ := h
  exact ⟨cs, fz, (hb.block g hl).trans h, hc⟩
theorem Byt.ne_own (h : Byt w g x) {base size n : Nat} {e : TypeId} {v : Value} {xs : List Value} (ho : w.ownsRow base e size v n xs) (hne : e ≠ 5) : some g ≠ v.ownBlock := by
  intro e1
  obtain ⟨cs, fz, h, hc⟩ := h
  rcases ho.2 with ⟨rfl, _⟩ | ⟨g', cap, cur, rfl, _, h3, _⟩
  · cases e1
  · simp only [Value.ownBlock, Option.some.injEq] at e1
    subst e1
    rw [h] at h3
    injection h3 with h3
    injection h3 with _ h4
    exact hne h4.symm
end
theorem Blk.ne_own {w : World} {base : Nat} {e t : TypeId} {size : Nat} {v : Value} {n g : Nat} {xs : List Value} {cs : Array Value} (hb : Blk w g t cs) (h : w.ownsRow base e size v n xs) (hne : e ≠ t) : some g ≠ v.ownBlock := by
  intro e1
  rcases h.2 with ⟨rfl, _⟩ | ⟨g', cap, cur, rfl, _, h3, _⟩
  · cases e1
  · simp only [Value.ownBlock, Option.some.injEq] at e1
    subst e1
    unfold Blk at hb
    rw [hb] at h3
    injection h3 with h3
    injection h3 with _ h4
    exact hne h4.symm
/-- Where the inner loop stands. -/
structure TpIn (w wr : World) (g8 gb : Nat) (xa xd : Nat) (xi : List UInt8) (o : Value) (out : List Tc) : Prop where
  box : Blk wr g8 73 #[.int .i64 (xa : Int), .int .i64 (xd : Int), .string (S xi)]
  by_ : Byt wr gb xi
  own : wr.ownsRow w.heap.size 161 2 o out.length (tcCells out)
  b : Below w.heap.size w wr
theorem TpIn.step {w wr w6 : World} {g8 gb xa xd : Nat} {xi : List UInt8} {o v6 : Value} {out out2 : List Tc} (h : TpIn w wr g8 gb xa xd xi o out) {cs : Array Value} (hg : (wr.alloc (.cells cs 161)).grownBy w6 o.ownBlock)
    (ho : w6.ownsRow w.heap.size 161 2 v6 out2.length (tcCells out2)) : TpIn w w6 g8 gb xa xd xi v6 out2 := by
  have h1 : (wr.alloc (.cells cs 161)).ownsRow w.heap.size 161 2 o out.length (tcCells out) := h.own.alloc _
  have hb := (h.box.alloc (.cells cs 161))
  have hy := h.by_.below ((Below.refl _ _).alloc (Nat.le_refl _) (.cells cs 161))
  refine ⟨hb.grown hg (hb.ne_own h1 (by decide)), hy.grown hg (hy.ne_own h1 (by decide)), ho, ?_⟩
  exact (h.b.alloc h.b.size _).grown hg (by have := h.b.size; simp; omega) (fun k hk => (h1.lt k hk).1)
/-- Where apply stands. -/
structure TpAt (l : List Tc) (es : List Ed) (k p : Nat) (out : List Tc) : Prop where
  kl : k ≤ es.length
  ch : ∃ pp, Chain l.length pp (es.drop k) ∧ after p pp
  pn : p ≤ l.length
  eq : tApply l 0 es = out ++ tApply l p (es.drop k)
theorem TpAt.start {l : List Tc} {es : List Ed} (h : edErr l.length es = 0) : TpAt l es 0 0 [] := ⟨Nat.zero_le _, ⟨none, (edErr_zero.1 h).2.2.2.1, rfl⟩, Nat.zero_le _, rfl⟩
theorem TpAt.bounds {l : List Tc} {es : List Ed} {k p : Nat} {out : List Tc} (h : TpAt l es k p out) (hk : k < es.length) : (p : Int) ≤ es[k].at_ ∧ 0 ≤ es[k].del ∧ es[k].at_ + es[k].del ≤ l.length ∧ es[k].ins.length ≤ 40 := by
  obtain ⟨pp, hc, ha⟩ := h.ch
  rw [List.drop_eq_getElem_cons hk] at hc
  cases hc with
  | cons _ _ _ h0 _ =>
    obtain ⟨h1, h2, h3, h4, h5, h6, h7⟩ := edOne_zero h0
    refine ⟨?_, h2, by omega, h5⟩
    cases pp with
    | none => simp only [after] at ha; omega
    | some e => simp only [after] at ha; have := h7 e rfl; omega
theorem TpAt.step {l : List Tc} {es : List Ed} {k p : Nat} {out : List Tc} (h : TpAt l es k p out) (hk : k < es.length) :
    TpAt l es (k + 1) (es[k].at_ + es[k].del).toNat (out ++ ((l.drop p).take (es[k].at_.toNat - p) ++ tIns es[k].ins)) := by
  have hb := h.bounds hk
  obtain ⟨pp, hc, ha⟩ := h.ch
  have he := h.eq
  rw [List.drop_eq_getElem_cons hk] at hc he
  cases hc with
  | cons _ _ _ h0 h9 =>
    obtain ⟨h1, h2, h3, h4, h5, h6, h7⟩ := edOne_zero h0
    refine ⟨hk, ⟨_, h9, by simp only [after]; omega⟩, by omega, ?_⟩
    rw [he, tApply]; simp
theorem TpAt.fin {l : List Tc} {es : List Ed} {p : Nat} {out : List Tc} (h : TpAt l es es.length p out) : out ++ l.drop p = tApply l 0 es := by
  rw [h.eq, List.drop_length, tApply]
theorem TpAt.len {l : List Tc} {es : List Ed} {k p : Nat} {out : List Tc} (h : TpAt l es k p out) (h0 : edErr l.length es = 0) : out.length ≤ 200 := by
  have := (tApply_len h0).2
  rw [h.eq, List.length_append] at this; omega
theorem TpIn.start {w wr w6 : World} {xa xd : Nat} {xi : List UInt8} {o v6 : Value} {out out2 : List Tc} (hb : Below w.heap.size w wr) (h : wr.ownsRow w.heap.size 161 2 o out.length (tcCells out))
    (hg : (wr.alloc (.cells #[.int .i64 (xa : Int), .int .i64 (xd : Int), .string (S xi)] 73)).grownBy w6 o.ownBlock) (ho : w6.ownsRow w.heap.size 161 2 v6 out2.length (tcCells out2)) :
    Blk w6 wr.heap.size 73 #[.int .i64 (xa : Int), .int .i64 (xd : Int), .string (S xi)] ∧ TpIn w (Lib.bytesWorld w6 5 (S xi)) wr.heap.size w6.heap.size xa xd xi v6 out2 := by
  have h1 := h.alloc (.cells #[.int .i64 (xa : Int), .int .i64 (xd : Int), .string (S xi)] 73)
  have hk : Blk w6 wr.heap.size 73 #[.int .i64 (xa : Int), .int .i64 (xd : Int), .string (S xi)] := (Blk.new_ _ _ _).grown hg ((Blk.new_ _ _ _).ne_own h1 (by decide))
  have hbw := bytesWorld_below w6 5 (S xi)
  refine ⟨hk, hk.below' hbw, Byt.new_ w6 (S xi), own_below ho hbw, ?_⟩
  have h6 : Below w.heap.size w w6 := (hb.alloc hb.size _).grown hg (by have := hb.size; simp; omega) (fun k hk => (h1.lt k hk).1)
  exact h6.trans (hbw.mono h6.size)
set_option maxRecDepth 100000 in
set_option maxHeartbeats 4000000 in
theorem trimApply_any (l : List Tc) (A : Option Addr) (n c : Nat) (es : List Ed) (E : Option Addr) (m d B : Nat) (w : World) (hl : Rd w B 2 A n (tcCells l)) (he : Rd w B 3 E m (edCells es)) (hB : B ≤ w.heap.size)
    (hnc : n ≤ c) (hn : c ≤ maxLen) (hE : edErr l.length es = 0) :
    Calls Try.prog 121 #[.slice A n c, .slice E m d] w fun e w' => ∃ v, e = .returned v ∧ w'.ownsRow w.heap.size 161 2 v (tApply l 0 es).length (tcCells (tApply l 0 es)) ∧ Below w.heap.size w w' := by
  obtain ⟨i0, hi0, hz0, hz1, hz2⟩ := info_parts info_tc
  have hel := Rd.rec_len ed_len (by omega) he
  have hll := Rd.rec_len tc_len (by omega) hl
  have hm20 : m ≤ 20 := by rw [← hel]; exact (edErr_zero.1 hE).2.2.1
  have hn200 : n ≤ 200 := by have := (edErr_zero.1 hE).2.1; omega
  unfold maxLen at hn
  have HR := Lib.hid hl; clear hl
  have HRE := Lib.hid he; clear he
  have HL := Lib.hid hll; clear hll
  have HLE := Lib.hid hel; clear hel
  have HE := Lib.hid hE; clear hE
  go_enter Try.func121, Try.ntmps121
  go_wp2_with fail
  go_loopw [5, 6, 13] (fun o a i wr => ∃ (k p : Nat) (out : List Tc), TpAt l es k p out ∧ i = .int .i64 k ∧ a = .int .i64 p ∧ wr.ownsRow w.heap.size 161 2 o out.length (tcCells out) ∧ Below w.heap.size w wr) (fun _ _ i _ => m - (intOf i).toNat)
  case atStart => exact ⟨0, 0, [], TpAt.start HE.out, rfl, rfl, World.ownsRow_nil _ _ _ _, Below.refl _ _⟩
  case round =>
    obtain ⟨k, p, out, HA, rfl, rfl, ho, hb⟩ := hrel
    have hk := HA.kl
    rw [HLE.out] at hk
    have hpn := HA.pn
    rw [HL.out] at hpn
    have hol := HA.len HE.out
    by_cases hlt : k < m
    · obtain ⟨ad, hl, rfl, hab, c0, c1, c2⟩ := (HRE.out.below (hb.mono hB)).at_ed hlt
      obtain ⟨b0, b1, b2, b3⟩ := HA.bounds hl
      have hst := HA.step hl
      have hol2 := hst.len HE.out
      have HST := Lib.hid hst
      have HO := Lib.hid ho
      clear HA hst ho
      rw [HL.out] at b2
      generalize es[k] = x at *
      obtain ⟨xa, xd, xi⟩ := x
      simp only at c0 c1 c2 b0 b1 b2 b3 HST hol2
      obtain ⟨xa, rfl⟩ := Int.eq_ofNat_of_zero_le (show 0 ≤ xa by omega)
      obtain ⟨xd, rfl⟩ := Int.eq_ofNat_of_zero_le b1
      have b4 : p ≤ xa := by omega
      have b5 : xa + xd ≤ n := by omega
      have b6 : xa ≤ c := by omega
      have hrd := (HR.out.below (hb.mono hB)).part_tc b4 (by omega : xa ≤ n) hnc
      have hcut := fun W => run_part (P := Try.prog) (t := 159) Try.underlying159 (size := 2) (by kernel_rfl) A n c p xa b4 b6 W
      generalize (if c = p then A else A.map (·.add (p * 2))) = A2 at *
      have HRD := Lib.hid (hrd.more hB)
      clear hrd
      have hln : ((l.drop p).take (xa - p)).length = xa - p := by rw [List.length_take, List.length_drop, HL.out]; omega
      have HLN := Lib.hid hln
      have hlb : (tcCells ((l.drop p).take (xa - p))).length = (xa - p) * 2 := by rw [tcCells_len, hln]
      clear hln
      rw [Int.toNat_natCast] at HST hol2
      generalize (l.drop p).take (xa - p) = mid at *
      have hcv := fun W => Lib.run_convert_string_bytes (P := Try.prog) W 9 52 5 (S xi) Try.underlying9 Try.underlying52 Try.underlying5
      go_wp2_with (at_builtin; go_must (refine wpList_appRdG rfl _ _ _ rfl w.heap.size 161 i0 _ 2 16 Try.underlying159 hi0 hz0 hz1 hz2 rfl (by omega) _ out.length (tcCells out) rfl (World.ownsRow.alloc (w := wr) HO.out _) w.heap.size A2 (xa - p) (c - p) (tcCells mid) rfl (HRD.out.alloc hb.size _) (tc_one mid) (by omega) (by omega) (by have := hb.size; simp; omega) ?_); intro v6 w6 hown6 hg6 hb6; have hs6 := TpIn.start (out2 := out ++ mid) hb HO.out hg6 (by rw [tcCells_app, List.length_append, HLN.out]; exact hown6); obtain ⟨hk6, hin6⟩ := hs6; have HIN := Lib.hid hin6; have hk2 := Blk.cell2 hk6; clear hin6 hk6 hg6 hown6 hb6 c0 c1 c2 hcut)
      clear hcv hk2
      have HSZ : Hid ((S xi).size = xi.length) := S_size xi
      have hz3 : (S xi).size ≤ 40 := by rw [HSZ.out]; exact b3
      have hg8 := HIN.out.box.lt
      have hgb := HIN.out.by_.lt
      generalize Lib.bytesWorld w6 5 (S xi) = w7 at *
      generalize w6.heap.size = gb at *
      generalize wr.heap.size = g8 at *
      go_loopw [5, 28] (fun o i w' => ∃ j : Nat, j ≤ (S xi).size ∧ i = .int .i64 j ∧ TpIn w w' g8 gb xa xd xi o (out ++ mid ++ tIns (xi.take j))) (fun _ i _ => (S xi).size - (intOf i).toNat)
      case atStart => exact ⟨0, Nat.zero_le _, rfl, by simpa [tIns] using HIN.out⟩
      case round =>
        clear HIN
        obtain ⟨j, hj, rfl, hI⟩ := hrel
        have hlen9 : (out ++ mid ++ tIns (xi.take j)).length ≤ 200 := by
          simp only [List.length_append, tIns, List.length_map, List.length_take] at hol2 ⊢; omega
        by_cases hlj : j < (S xi).size
        · have g2 : decide ((j : Int) < ((S xi).size : Int)) = true := decide_eq_true (by omega)
          have cb := hI.by_.cell (j := j) (by rw [← HSZ.out]; exact hlj)
          have HTK : Hid (out ++ mid ++ tIns (xi.take (j + 1)) = (out ++ mid ++ tIns (xi.take j)) ++ [(-1, xi.getD j 0)]) := by
            unfold Hid
            rw [List.take_succ_eq_append_getElem (by rw [← HSZ.out]; exact hlj), List.getD_eq_getElem?_getD, List.getElem?_eq_getElem (by rw [← HSZ.out]; exact hlj)]
            unfold tIns
            rw [List.map_append, ← List.append_assoc]; rfl
          have HI := Lib.hid hI
          clear hI
          generalize out ++ mid ++ tIns (xi.take j) = q at *
          generalize xi.getD j 0 = y at *
          have hown := HI.out.own
          have hbs := HI.out.b.size
          go_wp2_with (at_builtin; go_must (refine wpList_appG rfl _ _ _ rfl w.heap.size 161 i0 _ 2 16 Try.underlying159 hi0 hz0 hz1 hz2 rfl (by omega) _ q.length (tcCells q) rfl (World.ownsRow.alloc (w := wr) hown _) ⟨wr.heap.size, 0, none⟩ 1 1 [.int .i64 (-1), .int .u8 (y.toNat : Int)] rfl rfl (cells_new2 _ _ _ _) (by simp [Value.oneCell']) (by omega) (by omega) (by simp; omega) ?_); intro v6 w6 hown6 hg6 hb6)
          have HN : Hid (TpIn w w6 g8 gb xa xd xi v6 (q ++ [(-1, y)])) := HI.out.step hg6 (by rw [tcCells_app, tcCells_one, List.length_append]; exact hown6)
          clear hown6 hg6 hb6 hown HI
          go_roundw
          case rel => exact ⟨j + 1, by omega, by go_num, by rw [HTK.out]; exact HN.out⟩
          case measure => simp [intOf]; omega
        · obtain rfl : j = (S xi).size := by omega
          have g2 : decide (((S xi).size : Int) < ((S xi).size : Int)) = false := by simp
          have e9 : out ++ mid ++ tIns (xi.take (S xi).size) = out ++ (mid ++ tIns xi) := by
            rw [List.take_of_length_le (by rw [HSZ.out]; exact Nat.le_refl _), List.append_assoc]
          rw [e9] at hI
          clear e9
          have q0 := Blk.cell0 hI.box
          have q1 := Blk.cell1 hI.box
          have hown := hI.own
          have hb9 := hI.b
          have HST2 : Hid (TpAt l es (k + 1) (xa + xd) (out ++ (mid ++ tIns xi))) := HST.out
          clear hI
          go_wp2_with fail
          go_roundw
          case rel => exact ⟨k + 1, xa + xd, _, HST2.out, by go_num, by go_num, hown, hb9⟩
          case measure => simp [intOf]; omega
    · obtain rfl : k = m := by omega
      have g1 : decide ((k : Int) < (k : Int)) = false := by simp
      have HF : Hid (out ++ l.drop p = tApply l 0 es) := by
        have h9 := HA
        rw [show k = es.length from HLE.out.symm] at h9
        exact h9.fin
      have hrd := (HR.out.below (hb.mono hB)).part_tc hpn (Nat.le_refl n) hnc
      have hcut := fun W => run_partL (P := Try.prog) (t := 159) Try.underlying159 (size := 2) (by kernel_rfl) A n c p hpn W
      generalize (if c = p then A else A.map (·.add (p * 2))) = A2 at *
      have HRD := Lib.hid (hrd.more hB)
      have e9 : (l.drop p).take (n - p) = l.drop p := List.take_of_length_le (by rw [List.length_drop, HL.out]; exact Nat.le_refl _)
      have HE9 := Lib.hid e9
      have hlp : (l.drop p).length = n - p := by rw [List.length_drop, HL.out]
      have HLP := Lib.hid hlp
      have HO := Lib.hid ho
      clear hrd HA e9 hlp ho
      go_wp2_with (at_builtin; go_must (refine wpList_appRd rfl _ _ _ rfl w.heap.size 161 i0 _ 2 16 Try.underlying159 hi0 hz0 hz1 hz2 rfl (by omega) _ out.length (tcCells out) rfl HO.out w.heap.size A2 (n - p) (c - p) _ rfl HRD.out (tc_one _) (by omega) (by omega) hb.size ?_); intro v6 w6 hown6 hb6)
      go_ret
      refine ⟨_, rfl, ?_, hb.trans hb6⟩
      rw [← HF.out, tcCells_app, List.length_append, HLP.out]
      rw [HE9.out] at hown6
      exact hown6
end Go.Proofs.Ytolnhplgaolieaa
