/- Two rows of the call's own, side by side. A block that is known whole, and a world in which one block alone has turned. The reference's Clash, and whether one of a row clashes with an edit. -/
import Derived.Test.YtmikckhihfcooaaPk01
import Derived.Test.YtmikckhihfcooaaPk04
namespace Go.Proofs.Ytmikckhihfcooaa
open Go.RowKit
section
variable {w : World} {base base' : Nat} {e e' : TypeId} {size size' : Nat} {v v' : Value} {n n' : Nat} {xs xs' : List Value}
/-- Rows of unlike elements lie in unlike blocks. -/
theorem own_ne (h : w.ownsRow base e size v n xs) (h' : w.ownsRow base' e' size' v' n' xs') (hne : e ≠ e') : v.ownBlock = none ∨ v.ownBlock ≠ v'.ownBlock := by
  rcases h.2 with ⟨rfl, _⟩ | ⟨g, cap, cur, rfl, _, h3, _⟩
  · exact .inl rfl
  · refine .inr fun hb => ?_
    rcases h'.2 with ⟨rfl, _⟩ | ⟨g', cap', cur', rfl, _, h3', _⟩
    · simp [Value.ownBlock] at hb
    · simp only [Value.ownBlock, Option.some.injEq] at hb
      subst hb
      rw [h3] at h3'
      injection h3' with h3'
      injection h3' with _ h4
      exact hne h4
end
theorem cells_new (w : World) (cs : Array Value) (t : TypeId) : ∀ j u, cs.toList[j]? = some u → (w.alloc (.cells cs t)).cell? (Addr.add ⟨w.heap.size, 0, none⟩ j) = some u := fun j u h => by
  rw [cell_row _ _ j cs t (heap_alloc_new w _)]; simpa using h
theorem cells_new2 (w : World) (a b : Value) (t : TypeId) : ∀ j u, [a, b][j]? = some u → (w.alloc (.cells #[a, b] t)).cell? (Addr.add ⟨w.heap.size, 0, none⟩ j) = some u := cells_new w #[a, b] t
theorem cells_new3 (w : World) (a b c : Value) (t : TypeId) : ∀ j u, [a, b, c][j]? = some u → (w.alloc (.cells #[a, b, c] t)).cell? (Addr.add ⟨w.heap.size, 0, none⟩ j) = some u := cells_new w #[a, b, c] t
theorem getB (s : ByteArray) (i : Nat) (h : i < s.size) : s[i]'h = (L s).getD i 0 := by
  rw [List.getD_eq_getElem?_getD, List.getElem?_eq_getElem (by rw [L_len]; exact h)]
  rfl
/-- What another row's append leaves. -/
theorem own_grown {w w' : World} {base base' : Nat} {e e' : TypeId} {size size' : Nat} {v v' : Value} {n n' : Nat} {xs xs' : List Value} (h : w.ownsRow base e size v n xs) (h' : w.ownsRow base' e' size' v' n' xs') (hne : e ≠ e') (hg : w.grownBy w' v'.ownBlock) : w'.ownsRow base e size v n xs :=
  h.kept hg (own_ne h h' hne)
/-- 'append' to a row of the call's own: what it turns is that row alone. -/
theorem wpList_appG {P : Program} {w : World} {ops : Array Oper} {rest : List Oper} {o : Oper} {a : Act} {Q : Exit → Act → World → Prop} (hgd : o.guard = none) (s x : Operand) (t : TypeId)
    (ho : o.op = .call { callee := .builtin .append, args := #[s, x], argTypes := #[t, t] })
    (base : Nat) (e : TypeId) (i : TypeInfo) (z : Value) (size bytes : Nat) (ht : P.underlying t = some (.slice e)) (hi : P.info? e = some i) (hz : i.zero = some z)
    (hsize : i.size = size) (hby : i.bytes = bytes) (hzs : z.cells.size = size) (hsz : 0 < size)
    (v : Value) (n : Nat) (xs : List Value) (hs : a.eval s = v) (hown : w.ownsRow base e size v n xs)
    (ad : Addr) (m c : Nat) (news : List Value) (hx : a.eval x = .slice (some ad) m c) (hl : news.length = m * size) (hnews : ∀ j u, news[j]? = some u → w.cell? (ad.add j) = some u) (h1 : ∀ u ∈ news, u.oneCell' = true)
    (hbytes : (n + m) * bytes ≤ 140737488355328) (hb0 : 0 < bytes) (hbase : base ≤ w.heap.size)
    (h : ∀ v' w', w'.ownsRow base e size v' (n + m) (xs ++ news) → w.grownBy w' v.ownBlock → Below base w w' → wpList P ops Q rest (a.put o.dst v') w') : wpList P ops Q (o :: rest) a w :=
  wpList_append_own w hgd s x t ho base e i z size bytes ht hi hz hsize hby hzs hsz v n xs hs hown ad m c news hx hl hnews h1
    (by have := Nat.le_mul_of_pos_right (n + m) hb0; unfold maxLen; omega) hbytes hbase
    fun v' w' h2 h3 _ => h v' w' h2 h3 ((Below.refl base w).grown h3 hbase (fun k hk => (hown.lt k hk).1))
end Go.Proofs.Ytmikckhihfcooaa
namespace Go.Proofs.Ytmikckhihfcooaa
open Go.RowKit
/-- Block g is these cells. -/
def Blk (w : World) (g : Nat) (t : TypeId) (cs : Array Value) : Prop := w.heap[g]? = some (.cells cs t (0, 0))
section
variable {w w' : World} {g : Nat} {t : TypeId} {cs : Array Value}
theorem Blk.lt (h : Blk w g t cs) : g < w.heap.size := (Array.getElem?_eq_some_iff.1 h).1
theorem Blk.cell (h : Blk w g t cs) (i : Nat) : w.cell? ⟨g, i, none⟩ = cs[i]? := cell_of_row w g i cs t (0, 0) h
theorem Blk.cell0 {a : Value} {r : List Value} (h : Blk w g t ⟨a :: r⟩) : w.cell? ⟨g, 0, none⟩ = some a := h.cell 0
theorem Blk.cell1 {a b : Value} {r : List Value} (h : Blk w g t ⟨a :: b :: r⟩) : w.cell? ⟨g, 1, none⟩ = some b := h.cell 1
theorem Blk.cell2 {a b c : Value} {r : List Value} (h : Blk w g t ⟨a :: b :: c :: r⟩) : w.cell? ⟨g, 2, none⟩ = some c := h.cell 2
theorem Blk.frozen (h : Blk w g t cs) (i : Nat) : w.frozen? ⟨g, i, none⟩ = false := by
  unfold Blk at h
  simp [World.frozen?, h]
theorem Blk.new_ (w : World) (t : TypeId) (cs : Array Value) : Blk (w.alloc (.cells cs t)) w.heap.size t cs := heap_alloc_new w _
theorem Blk.drew (h : Blk w g t cs) : Blk w.drew g t cs := h
theorem Blk.drewN (h : Blk w g t cs) (n : Nat) : Blk (w.drewN n) g t cs := h
theorem Blk.below {B : Nat} (h : Blk w g t cs) (hb : Below B w w') (hg : g < B) : Blk w' g t cs := (hb.block g hg).trans h
theorem Blk.below' (h : Blk w g t cs) (hb : Below w.heap.size w w') : Blk w' g t cs := h.below hb h.lt
theorem Blk.alloc (h : Blk w g t cs) (o : Obj) : Blk (w.alloc o) g t cs := h.below' ((Below.refl _ _).alloc (Nat.le_refl _) _)
theorem Blk.set_ (h : Blk w g t cs) (i : Nat) (u : Value) : Blk (w.setCell ⟨g, i, none⟩ u) g t (cs.setIfInBounds i u) := by
  unfold Blk at h ⊢
  simp [World.setCell, Array.getElem?_modify, h]
theorem Blk.far (h : Blk w g t cs) {p : Addr} (hp : g ≠ p.block) (u : Value) : Blk (w.setCell p u) g t cs := (Below.heap_setCell w p u g hp).trans h
theorem Blk.grown {row : Option Nat} (h : Blk w g t cs) (hb : w.grownBy w' row) (hg : some g ≠ row) : Blk w' g t cs := (hb.block g h.lt hg).trans h
end
section
variable {w w' w2 : World} {row : Option Nat} {g : Nat}
theorem gb_refl (w : World) (row : Option Nat) : w.grownBy w row := ⟨rfl, rfl, rfl, Nat.le_refl _, fun _ _ _ => rfl⟩
theorem gb_trans (h : w.grownBy w' row) (k : w'.grownBy w2 row) : w.grownBy w2 row :=
  ⟨k.os.trans h.os, k.tape.trans h.tape, k.output.trans h.output, Nat.le_trans h.size k.size, fun i hi hr => (k.block i (Nat.lt_of_lt_of_le hi h.size) hr).trans (h.block i hi hr)⟩
theorem gb_of_below (h : Below w.heap.size w w') (row : Option Nat) : w.grownBy w' row := ⟨h.os, h.tape, h.output, h.size, fun k hk _ => h.block k hk⟩
theorem gb_below (h : w.grownBy w' row) (k : Below w'.heap.size w' w2) : w.grownBy w2 row := gb_trans h (gb_of_below k row)
theorem gb_set (h : w.grownBy w' (some g)) (i : Nat) (u : Value) : w.grownBy (w'.setCell ⟨g, i, none⟩ u) (some g) :=
  gb_trans h ⟨rfl, rfl, rfl, by simp [World.setCell], fun k _ hk => Below.heap_setCell w' ⟨g, i, none⟩ u k (fun e => hk (by rw [e]))⟩
theorem gb_alloc (h : w.grownBy w' row) (o : Obj) : w.grownBy (w'.alloc o) row := gb_below h ((Below.refl _ _).alloc (Nat.le_refl _) _)
theorem gb_drewN (h : w.grownBy w' row) (n : Nat) : w.grownBy (w'.drewN n) row := gb_below h (below_drewN (Below.refl _ _) _)
theorem gb_drew (h : w.grownBy w' row) : w.grownBy w'.drew row := gb_below h (Below.drew (Below.refl _ _))
theorem below_gb {base : Nat} {a : World} (h : Below base a w) (hg : w.grownBy w' (some g)) (hb : base ≤ g) (hs : base ≤ w.heap.size) : Below base a w' :=
  h.grown hg hs (fun k hk => by cases hk; exact hb)
end
end Go.Proofs.Ytmikckhihfcooaa
namespace Go.Proofs.Ytmikckhihfcooaa
open Go.RowKit
def bdE (x : Ed) : Prop := 0 ≤ x.at_ ∧ x.at_ ≤ 200 ∧ 0 ≤ x.del ∧ x.del ≤ 200
set_option maxRecDepth 100000 in
set_option maxHeartbeats 2000000 in
theorem refClash_any (x y : Ed) (hx : 0 ≤ x.at_ ∧ x.at_ ≤ 200 ∧ 0 ≤ x.del ∧ x.del ≤ 200) (hy : 0 ≤ y.at_ ∧ y.at_ ≤ 200 ∧ 0 ≤ y.del ∧ y.del ≤ 200) (w : World) :
    Calls Try.prog 16 #[.agg #[.int .i64 x.at_, .int .i64 x.del, .string (S x.ins)], .agg #[.int .i64 y.at_, .int .i64 y.del, .string (S y.ins)]] w fun e w' => e = .returned (.bool (decide (clashE x y))) ∧ Below w.heap.size w w' := by
  obtain ⟨xa, xd, xi⟩ := x
  obtain ⟨ya, yd, yi⟩ := y
  simp only at hx hy ⊢
  have HR : Hid ((decide (clashE ⟨xa, xd, xi⟩ ⟨ya, yd, yi⟩) = true) ↔ (¬ (xa = ya ∧ xd = yd ∧ (S xi).toList = (S yi).toList) ∧ xa ≤ ya + yd ∧ ya ≤ xa + xd)) := by
    rw [Hid, decide_eq_true_iff, ByteArray.toList_eq, ByteArray.toList_eq]
    unfold clashE
    rw [ne_eq, Ed.mk.injEq]
    exact Iff.rfl
  generalize decide (clashE ⟨xa, xd, xi⟩ ⟨ya, yd, yi⟩) = r at *
  generalize S xi = X at *
  generalize S yi = Y at *
  go_enter Try.func16, Try.ntmps16
  go_wp2_with fail
  all_goals go_ret
  all_goals refine ⟨ret_bool ?_, (by repeat (first | exact Below.refl _ _ | assumption | refine Below.alloc ?_ (by first | exact Nat.le_refl _ | assumption | omega | (simp <;> omega)) _ | refine Below.setCell ?_ (by first | exact Nat.le_refl _ | assumption | omega | (simp <;> omega)) _ | refine Below.drew ?_ | refine below_drewN ?_ _))⟩
  all_goals rw [Bool.eq_iff_iff, HR.out]
  all_goals grind
set_option maxHeartbeats 1000000 in
theorem bothC_any (x y : Ed) (hx : bdE x) (hy : bdE y) (g : Nat) (w : World) (hk : Blk w g 30 #[.int .i64 x.at_, .int .i64 x.del, .string (S x.ins)]) :
    Calls Try.prog 15 #[.agg #[.int .i64 y.at_, .int .i64 y.del, .string (S y.ins)], .pointer (some ⟨g, 0, none⟩)] w fun e w' => e = .returned (.bool (decide (clashE x y))) ∧ Below w.heap.size w w' := by
  have hb0 : Below w.heap.size w (w.alloc (.cells #[.int .i64 y.at_, .int .i64 y.del, .string (S y.ins)] 30)) := (Below.refl _ _).alloc (Nat.le_refl _) _
  have HB0 := Lib.hid hb0
  have hk2 := hk.below' hb0
  have c0 := hk2.cell0
  have c1 := hk2.cell1
  have c2 := hk2.cell2
  have HCL := Lib.hid (fun W => refClash_any x y hx hy W)
  clear hb0 hk hk2
  generalize decide (clashE x y) = r at *
  obtain ⟨xa, xd, xi⟩ := x
  obtain ⟨ya, yd, yi⟩ := y
  simp only at c0 c1 c2
  go_enter Try.func15, Try.ntmps15
  go_wp2_with fail
  refine (HCL.out _).mono ?_
  rintro e w1 ⟨rfl, hb1⟩
  go_wp2_with fail
  go_ret
  exact ⟨rfl, bthen HB0.out hb1⟩
def anyC (x : Ed) (l : List Ed) : Bool := l.any fun y => decide (clashE x y)
theorem ed_len9 (x : Ed) : (Ed.cells x).length = 3 := rfl
set_option maxRecDepth 100000 in
set_option maxHeartbeats 1000000 in
theorem bothI_any (l : List Ed) (e9 : Ed) (A : Option Addr) (m c B g : Nat) (w : World) (hr : Rd w B 3 A m (edCells l)) (hB : B ≤ w.heap.size) (hm : m ≤ 9223372036854775807) (hx : bdE e9) (hl : ∀ y ∈ l, bdE y) (hc : Blk w g 30 #[.int .i64 e9.at_, .int .i64 e9.del, .string (S e9.ins)]) :
    Calls Try.prog 23 #[.slice A m c, .func (.func 15) #[] #[.pointer (some ⟨g, 0, none⟩)]] w fun e w' => (∃ i : Int, e = .returned (.int .i64 i) ∧ (decide (0 ≤ i) = anyC e9 l)) ∧ Below w.heap.size w w' := by
  have hlen := Rd.rec_len ed_len9 (by omega) hr
  have HR := Lib.hid hr
  have HL := Lib.hid hlen
  have HC : Hid (∀ W, Below w.heap.size w W → ∀ x : Ed, x ∈ l → _) := fun W hW x hx9 => bothC_any e9 x hx (hl x hx9) g W (hc.below' hW)
  clear hr hlen hc hx hl
  go_enter Try.func23, Try.ntmps23
  go_wp2_with fail
  go_loopw [8] (fun i wr => ∃ k : Nat, k ≤ m ∧ Hid (∀ x ∈ l.take k, ¬ clashE e9 x) ∧ i = .int .i64 k ∧ Below w.heap.size w wr) (fun i _ => m - (intOf i).toNat)
  case atStart => exact ⟨0, Nat.zero_le _, (fun x hx => by rw [List.take_zero] at hx; cases hx), rfl, Below.refl _ _⟩
  case round =>
    obtain ⟨k, hk, HNO, rfl, hb⟩ := hrel
    have hbs := hb.size
    by_cases hlt : k < m
    · have g1 : decide ((k : Int) < (m : Int)) = true := decide_eq_true (by omega)
      have g1' : decide (k < m) = true := decide_eq_true hlt
      obtain ⟨ad, hl, rfl, hab, c0, c1, c2'⟩ := (HR.out.below (hb.mono hB)).at_ed hlt
      have HX := Lib.hid (HC.out wr hb l[k] (List.getElem_mem hl))
      have HTK : Hid (l.take (k + 1) = l.take k ++ [l[k]]) := by rw [Hid, List.take_add_one, List.getElem?_eq_getElem hl]; rfl
      have HML : Hid (l[k] ∈ l) := List.getElem_mem hl
      generalize l[k] = x at *
      by_cases hin : clashE e9 x
      · have HBG : Hid (anyC e9 l = true) := List.any_eq_true.2 ⟨x, HML.out, decide_eq_true hin⟩
        rw [decide_eq_true hin] at HX
        clear hin HTK HML
        obtain ⟨xa, xd, xi⟩ := x
        simp only at c0 c1 c2' HX
        go_wp2_with fail
        refine HX.out.mono ?_
        rintro e w2 ⟨rfl, hb2⟩
        have hb3 := bthen hb hb2
        go_wp2_with fail
        go_ret
        exact ⟨⟨_, rfl, by rw [HBG.out]; exact decide_eq_true (by omega)⟩, hb3⟩
      · have HNX : Hid (∀ x ∈ l.take (k + 1), ¬ clashE e9 x) := by
          rw [HTK.out]
          intro y hy
          rcases List.mem_append.1 hy with hy | hy
          · exact HNO.out y hy
          · rw [List.mem_singleton.1 hy]; exact hin
        rw [decide_eq_false hin] at HX
        clear hin HTK HML
        obtain ⟨xa, xd, xi⟩ := x
        simp only at c0 c1 c2' HX
        go_wp2_with fail
        refine HX.out.mono ?_
        rintro e w2 ⟨rfl, hb2⟩
        have hb3 := bthen hb hb2
        go_wp2_with fail
        go_roundw
        case rel => exact ⟨k + 1, by omega, HNX.out, by go_num, hb3⟩
        case measure => simp [intOf]; omega
    · obtain rfl : k = m := by omega
      have g1 : decide ((k : Int) < (k : Int)) = false := decide_eq_false (by omega)
      have g1' : decide (k < k) = false := decide_eq_false hlt
      have HBG : Hid (anyC e9 l = false) := by
        unfold Hid anyC
        rw [List.any_eq_false]
        intro x hx
        have h := HNO.out x (by rw [List.take_of_length_le (by rw [HL.out]; exact Nat.le_refl _)]; exact hx)
        simpa using h
      go_wp2_with fail
      go_ret
      exact ⟨⟨-1, rfl, by rw [HBG.out]; rfl⟩, hb⟩
set_option maxRecDepth 100000 in
theorem bothF_any (l : List Ed) (e9 : Ed) (A : Option Addr) (m c B g : Nat) (w : World) (hr : Rd w B 3 A m (edCells l)) (hB : B ≤ w.heap.size) (hm : m ≤ 9223372036854775807) (hx : bdE e9) (hl : ∀ y ∈ l, bdE y) (hc : Blk w g 30 #[.int .i64 e9.at_, .int .i64 e9.del, .string (S e9.ins)]) :
    Calls Try.prog 14 #[.slice A m c, .func (.func 15) #[] #[.pointer (some ⟨g, 0, none⟩)]] w fun e w' => e = .returned (.bool (anyC e9 l)) ∧ Below w.heap.size w w' := by
  have HR := Lib.hid (bothI_any l e9 A m c B g w hr hB hm hx hl hc)
  clear hr hc hx hl
  go_enter Try.func14, Try.ntmps14
  go_wp2_with fail
  refine HR.out.mono ?_
  rintro e w2 ⟨⟨i, rfl, hi⟩, hb2⟩
  have HI := Lib.hid hi
  clear hi
  go_wp2_with fail
  go_ret
  exact ⟨ret_bool HI.out, hb2⟩
end Go.Proofs.Ytmikckhihfcooaa
