/- Words for memory that all walks of this seat share: a slice that reads as a list of cells; small facts on worlds. No premise beyond each lemma's own. The two ways to reckon the checksum, as functions on numbers, and that they agree. No program in sight. The walks of package sum and of the reference's checksum. -/
import Derived.Test.YtplgghjdidmcfaaGreatDoorRows
import Derived.WalkKit
import Derived.WalkSpells
import Derived.WalkLawsBesides
import Derived.Deep.QuietTactic
import Derived.BigQuiet
import Derived.Deep.Draws
import Derived.Deep.AppendLies
import Derived.Lib.Hide
import Derived.Deep.Light
import Derived.Lib.QuietBelow
import Derived.Deep.RegionWith
import Derived.Deep.RegionLaw
import Derived.Deep.DeepCutAuto
import Derived.Lib.ConvBytes
import Derived.Laws.BytesArg
import Derived.Laws.IdiomStrings
namespace Go.Proofs.YtplgghjdidmcfaaGreatDoor
open Go.RowKit

/-- Draws leave memory as it is (of this seat's own, since the library has the name more than once). -/
theorem below_drewN {B : Nat} {a w : World} (h : Below B a w) (n : Nat) : Below B a (w.drewN n) := h.trans ⟨rfl, rfl, rfl, Nat.le_refl _, fun _ _ => rfl⟩
theorem blk_add (a : Addr) (n : Nat) : (a.add n).block = a.block := by unfold Addr.add; split <;> rfl
theorem add_add (a : Addr) (i j : Nat) : (a.add i).add j = a.add (i + j) := by
  unfold Addr.add
  by_cases hi : i = 0 <;> by_cases hj : j = 0 <;> simp [hi, hj, Nat.add_assoc]

/-- The slice value `.slice A n c` of elements of `size` cells reads as the cells `xs`; it lies below block `B`. -/
def Rd (w : World) (B size : Nat) (A : Option Addr) (n : Nat) (xs : List Value) : Prop :=
  xs.length = n * size ∧ (0 < n → ∃ ad, A = some ad ∧ ad.block < B ∧ ∀ j u, xs[j]? = some u → w.cell? (ad.add j) = some u)

section
variable {w w' : World} {B B' size n : Nat} {A : Option Addr} {xs : List Value}
theorem Rd.nil_ : Rd w B size A 0 [] := ⟨by simp, fun h => absurd h (by omega)⟩
theorem Rd.at_ {k : Nat} (h : Rd w B 1 A n xs) (hk : k < n) : ∃ ad u, A = some ad ∧ ad.block < B ∧ xs[k]? = some u ∧ w.cell? (ad.add k) = some u := by
  obtain ⟨ad, e, hb, hc⟩ := h.2 (by omega)
  have hl : k < xs.length := by have := h.1; omega
  exact ⟨ad, xs[k], e, hb, List.getElem?_eq_getElem hl, hc k _ (List.getElem?_eq_getElem hl)⟩
theorem Rd.keep (h : Rd w B size A n xs) (hk : ∀ p : Addr, p.block < B → w'.cell? p = w.cell? p) : Rd w' B size A n xs :=
  ⟨h.1, fun hn => by
    obtain ⟨ad, e, hb, hc⟩ := h.2 hn
    exact ⟨ad, e, hb, fun j u hu => (hk _ (by rw [blk_add]; exact hb)).trans (hc j u hu)⟩⟩
theorem Rd.more (h : Rd w B size A n xs) (hB : B ≤ B') : Rd w B' size A n xs :=
  ⟨h.1, fun hn => by
    obtain ⟨ad, e, hb, hc⟩ := h.2 hn
    exact ⟨ad, e, by omega, hc⟩⟩
theorem Rd.below (h : Rd w B size A n xs) (hb : Below B w w') : Rd w' B size A n xs := h.keep fun _ hp => hb.cell hp
theorem Rd.drew (h : Rd w B size A n xs) : Rd w.drew B size A n xs := h
theorem Rd.drewN (h : Rd w B size A n xs) (k : Nat) : Rd (w.drewN k) B size A n xs := h
theorem Rd.alloc (h : Rd w B size A n xs) (hB : B ≤ w.heap.size) (o : Obj) : Rd (w.alloc o) B size A n xs := h.keep fun p hp => World.cell?_alloc_lt w o p (by omega)
theorem Rd.of_own {base : Nat} {e : TypeId} {c : Nat} (h : w.ownsRow base e size (.slice A n c) n xs) : Rd w w.heap.size size A n xs := by
  refine ⟨h.1, fun hn => ?_⟩
  obtain ⟨g, cap, hv, _, hlt⟩ := h.form hn
  have hA : A = some ⟨g, 0, none⟩ := by injection hv
  subst hA
  exact ⟨_, rfl, hlt, h.cells (g := g) rfl⟩
end

theorem cell_row (w : World) (g i : Nat) (cs : Array Value) (t : TypeId) (hg : w.heap[g]? = some (.cells cs t (0, 0))) : w.cell? ((⟨g, 0, none⟩ : Addr).add i) = cs[i]? := by
  have hadd : (⟨g, 0, none⟩ : Addr).add i = ⟨g, i, none⟩ := by unfold Addr.add; split <;> simp_all
  rw [hadd, cell_of_row w g i cs t (0, 0) hg]
/-- A block that reads whole is a slice that reads. -/
theorem Rd.of_heap {w : World} {g : Nat} {cs : Array Value} {t : TypeId} {B size n : Nat} (hg : w.heap[g]? = some (.cells cs t (0, 0))) (hB : g < B) (hn : cs.size = n * size) :
    Rd w B size (some ⟨g, 0, none⟩) n cs.toList :=
  ⟨by simpa using hn, fun _ => ⟨_, rfl, hB, fun j u hu => by rw [cell_row w g j cs t hg]; simpa using hu⟩⟩
theorem Rd.new_ (w : World) (cs : Array Value) (t : TypeId) {B size n : Nat} (hB : w.heap.size < B) (hn : cs.size = n * size) :
    Rd (w.alloc (.cells cs t)) B size (some ⟨w.heap.size, 0, none⟩) n cs.toList :=
  Rd.of_heap (heap_alloc_new w _) hB hn

theorem ret_int {k : IntKind} {a b : Int} (h : a = b) : Ending.returned (.int k a) = .returned (.int k b) := by rw [h]
theorem ret_bool {a b : Bool} (h : a = b) : Ending.returned (.bool a) = .returned (.bool b) := by rw [h]
theorem bcell {w w1 : World} (hb : Below w.heap.size w w1) : (∀ b o, b < w.heap.size → w1.cell? ⟨b, o, none⟩ = w.cell? ⟨b, o, none⟩) ∧ (∀ b o, b < w.heap.size → w1.frozen? ⟨b, o, none⟩ = w.frozen? ⟨b, o, none⟩) :=
  ⟨fun b o h => hb.cell (p := ⟨b, o, none⟩) h, fun b o h => hb.frozen (p := ⟨b, o, none⟩) h⟩

theorem blen (s : ByteArray) : s.data.toList.length = s.size := by rw [Array.length_toList]; rfl
/-- Bytes as cells. -/
def byteCells (l : List UInt8) : List Value := l.map fun b => .int .u8 (b.toNat : Int)
theorem bytesWorld_below (w : World) (e : TypeId) (s : ByteArray) : Below w.heap.size w (Lib.bytesWorld w e s) :=
  ⟨rfl, rfl, rfl, by rw [Lib.bytesWorld_size]; omega, fun k hk => Lib.bytesWorld_at_old w e s k hk⟩
theorem bytesWorld_rd (w : World) (e : TypeId) (s : ByteArray) {B : Nat} (hB : w.heap.size < B) : Rd (Lib.bytesWorld w e s) B 1 (some ⟨w.heap.size, 0, none⟩) s.size (byteCells s.data.toList) := by
  refine ⟨by rw [byteCells, List.length_map, blen]; omega, fun _ => ⟨_, rfl, hB, fun j u hu => ?_⟩⟩
  have hj : j < s.data.toList.length := by
    have := (List.getElem?_eq_some_iff.1 hu).1
    simpa [byteCells] using this
  have hadd : (⟨w.heap.size, 0, none⟩ : Addr).add j = ⟨w.heap.size, j, none⟩ := by unfold Addr.add; split <;> simp_all
  rw [hadd, Lib.bytesWorld_cell w e s j (by rw [blen] at hj; exact hj), ← hu, byteCells, List.getElem?_map, List.getD_eq_getElem?_getD, List.getElem?_eq_getElem hj]
  rfl

theorem below_of_regrown {w w' : World} (h : ∃ p : Regrown, w' = Go.Sort.grow (redrawn w p.d) p.os) : Below w.heap.size w w' := by
  obtain ⟨p, rfl⟩ := h
  exact below_regrown w p.d p.os
theorem drew_cell (w : World) (a : Addr) : w.drew.cell? a = w.cell? a := rfl
theorem bthen {w w2 w3 : World} (h : Below w.heap.size w w2) (k : Below w2.heap.size w2 w3) : Below w.heap.size w w3 := h.trans (k.mono h.size)
theorem beqB (x y : ByteArray) : (x.toList == y.toList) = decide (x = y) := by
  rw [ByteArray.toList_eq, ByteArray.toList_eq, Bool.eq_iff_iff, beq_iff_eq, decide_eq_true_iff]
  constructor
  · intro h
    cases x; cases y
    simp only [ByteArray.mk.injEq]
    exact Array.toList_inj.1 h
  · rintro rfl; rfl
/-- The string of these bytes. -/
def S (l : List UInt8) : ByteArray := ⟨l.toArray⟩
/-- The bytes of a string. -/
def L (s : ByteArray) : List UInt8 := s.data.toList
theorem L_S (l : List UInt8) : L (S l) = l := rfl
theorem S_L (s : ByteArray) : S (L s) = s := rfl
theorem L_len (s : ByteArray) : (L s).length = s.size := blen s
theorem L_inj {a b : ByteArray} (h : L a = L b) : a = b := by have := congrArg S h; exact this
theorem L_append (s t : ByteArray) : L (s ++ t) = L s ++ L t := by simp [L]
theorem L_extract (s : ByteArray) (a b : Nat) : L (s.extract a b) = ((L s).drop a).take (b - a) := by simp [L, ByteArray.data_extract, Array.toList_extract, List.extract_eq_take_drop]
theorem L_empty : L ByteArray.empty = [] := rfl
theorem S_data (l : List UInt8) : (S l).data.toList = l := rfl
theorem S_of (s : ByteArray) : S s.data.toList = s := rfl
theorem S_size (l : List UInt8) : (S l).size = l.length := by rw [← blen]; rfl
theorem S_inj {a b : List UInt8} (h : S a = S b) : a = b := by have := congrArg (fun s => s.data.toList) h; exact this
theorem extract_S (s : ByteArray) (a b : Nat) : s.extract a b = S (((L s).drop a).take (b - a)) := by rw [← L_extract]; rfl
theorem append_S (s t : ByteArray) : s ++ t = S (L s ++ L t) := by rw [← L_append]; rfl
/-- 'string(b)'. -/
theorem run_bytes_string {P : Program} (w : World) {src dst e : TypeId} (hs : P.underlying src = some (.slice e)) (he : P.underlying e = some (.int .u8)) (hd : P.underlying dst = some .string)
    {A : Option Addr} {n c B : Nat} {l : List UInt8} (h : Rd w B 1 A n (byteCells l)) : (convert src dst (.slice A n c)).run P w = .ok (.string ⟨l.toArray⟩) w := by
  have hn : l.length = n := by have := h.1; simpa [byteCells] using this
  cases A with
  | none =>
    have h0 : n = 0 := by
      rcases Nat.eq_zero_or_pos n with h0 | h0
      · exact h0
      · obtain ⟨_, h1, _⟩ := h.2 h0; cases h1
    subst h0
    rw [List.eq_nil_of_length_eq_zero hn]
    exact run_convert_bytes_nil w src e hs he 0 c dst hd
  | some ad =>
    subst hn
    refine run_convert_bytes_back w src dst e ad c l hs he hd fun j hj => ?_
    obtain ⟨ad', h1, _, h2⟩ := h.2 (by omega)
    cases h1
    exact h2 j _ (by rw [byteCells, List.getElem?_map, List.getElem?_eq_getElem hj]; rfl)

theorem run_index_S {P : Program} {t : TypeId} (h : P.underlying t = some .string) (s : ByteArray) (i : Nat) (hi : i < s.size) (w : World) :
    (Instr.index t (.string s) (.int .i64 (i : Int))).run P w = .ok (.int .u8 (((L s).getD i 0).toNat : Int)) w := by
  rw [run_index_string w t s .i64 i h, dif_pos ⟨by omega, by omega⟩]
  have e : s[((i : Int)).toNat]'(by omega) = (L s).getD i 0 := by
    rw [List.getD_eq_getElem?_getD, List.getElem?_eq_getElem (by rw [L_len]; exact hi)]
    rfl
  rw [e]
theorem conv_new {P : Program} {src dst e : TypeId} (hs : P.underlying src = some (.slice e)) (he : P.underlying e = some (.int .u8)) (hd : P.underlying dst = some .string)
    (w : World) (cs : Array Value) (l : List UInt8) (n c : Nat) (h : cs.toList = byteCells l) (hn : l.length = n) :
    (convert src dst (.slice (some ⟨w.heap.size, 0, none⟩) n c)).run P (w.alloc (.cells cs e)) = .ok (.string (S l)) (w.alloc (.cells cs e)) :=
  run_bytes_string _ hs he hd (A := some ⟨w.heap.size, 0, none⟩) (B := w.heap.size + 1) (l := l)
    (by rw [← h]; exact Rd.new_ (size := 1) w _ _ (Nat.lt_succ_self _) (by rw [← Array.length_toList, h, byteCells, List.length_map, hn]; omega))

theorem own_below {w w' : World} {base : Nat} {e : TypeId} {size : Nat} {v : Value} {n : Nat} {xs : List Value} (h : w.ownsRow base e size v n xs) (hb : Below w.heap.size w w') : w'.ownsRow base e size v n xs :=
  h.kept (row := none) ⟨hb.os, hb.tape, hb.output, hb.size, fun k hk _ => hb.block k hk⟩ (by cases hv : v.ownBlock <;> simp)
theorem own_drewN {w : World} {base : Nat} {e : TypeId} {size : Nat} {v : Value} {n : Nat} {xs : List Value} (h : w.ownsRow base e size v n xs) (k : Nat) : (w.drewN k).ownsRow base e size v n xs := h
theorem own_lower {w : World} {base base' : Nat} {e : TypeId} {size : Nat} {v : Value} {n : Nat} {xs : List Value} (h : w.ownsRow base e size v n xs) (hb : base' ≤ base) : w.ownsRow base' e size v n xs := by
  refine ⟨h.1, ?_⟩
  rcases h.2 with h | ⟨g, cap, cur, h1, h2, h3⟩
  · exact .inl h
  · exact .inr ⟨g, cap, cur, h1, by omega, h3⟩
theorem own_form {w : World} {base : Nat} {e : TypeId} {size : Nat} {v : Value} {n : Nat} {xs : List Value} (h : w.ownsRow base e size v n xs) : ∃ A c, v = .slice A n c ∧ n ≤ c ∧ c ≤ maxLen ∧ Rd w w.heap.size size A n xs := by
  have h0 := h
  rcases h.2 with ⟨rfl, rfl⟩ | ⟨g, cap, cur, rfl, h2, h3, h4, h5, _⟩
  · have hx : xs = [] := List.eq_nil_of_length_eq_zero (by have := h.1; omega)
    subst hx
    exact ⟨none, 0, rfl, Nat.le_refl _, Nat.zero_le _, Rd.nil_⟩
  · exact ⟨_, cap, rfl, h4, h5, Rd.of_own h0⟩
/-- 'append' to a row of the call's own, its source cells at an address. -/
theorem wpList_app {P : Program} {w : World} {ops : Array Oper} {rest : List Oper} {o : Oper} {a : Act} {Q : Exit → Act → World → Prop} (hgd : o.guard = none) (s x : Operand) (t : TypeId)
    (ho : o.op = .call { callee := .builtin .append, args := #[s, x], argTypes := #[t, t] })
    (base : Nat) (e : TypeId) (i : TypeInfo) (z : Value) (size bytes : Nat) (ht : P.underlying t = some (.slice e)) (hi : P.info? e = some i) (hz : i.zero = some z)
    (hsize : i.size = size) (hby : i.bytes = bytes) (hzs : z.cells.size = size) (hsz : 0 < size)
    (v : Value) (n : Nat) (xs : List Value) (hs : a.eval s = v) (hown : w.ownsRow base e size v n xs)
    (ad : Addr) (m c : Nat) (news : List Value) (hx : a.eval x = .slice (some ad) m c) (hl : news.length = m * size) (hnews : ∀ j u, news[j]? = some u → w.cell? (ad.add j) = some u) (h1 : ∀ u ∈ news, u.oneCell' = true)
    (hbytes : (n + m) * bytes ≤ 140737488355328) (hb0 : 0 < bytes) (hbase : base ≤ w.heap.size)
    (h : ∀ v' w', w'.ownsRow base e size v' (n + m) (xs ++ news) → Below base w w' → wpList P ops Q rest (a.put o.dst v') w') : wpList P ops Q (o :: rest) a w :=
  wpList_append_own w hgd s x t ho base e i z size bytes ht hi hz hsize hby hzs hsz v n xs hs hown ad m c news hx hl hnews h1
    (by have := Nat.le_mul_of_pos_right (n + m) hb0; unfold maxLen; omega) hbytes hbase
    fun v' w' h2 h3 _ => h v' w' h2 ((Below.refl base w).grown h3 hbase (fun k hk => (hown.lt k hk).1))

theorem run_append_nil {P : Program} (w : World) {base : Nat} {t ty e : TypeId} {i : TypeInfo} {size : Nat} (ht : P.underlying t = some (.slice e)) (hi : P.info? e = some i)
    {v : Value} {n : Nat} {xs : List Value} (hown : w.ownsRow base e size v n xs) (c : Nat) : (Builtin.append_ #[t, t] ty #[v, .slice none 0 c]).run P w = .ok v w := by
  rcases hown.2 with ⟨rfl, rfl⟩ | ⟨g, cap, cur, rfl, _, _, hnc, _⟩
  · simp [Builtin.append_, run_underlying ht, sizeOf, typeInfo, hi, Builtin.lenOf, Builtin.firstCells]
  · simp [Builtin.append_, run_underlying ht, sizeOf, typeInfo, hi, Builtin.lenOf, Builtin.firstCells, hnc, storeCells]
/-- 'append(out, src...)', out the call's own, src any slice that reads. -/
theorem run_appRd {P : Program} {w : World} {base : Nat} {t ty e : TypeId} {i : TypeInfo} {z : Value} {size bytes : Nat} (ht : P.underlying t = some (.slice e)) (hi : P.info? e = some i) (hz : i.zero = some z)
    (hsize : i.size = size) (hby : i.bytes = bytes) (hzs : z.cells.size = size) (hsz : 0 < size) {v : Value} {n : Nat} {xs : List Value} (hown : w.ownsRow base e size v n xs)
    {B : Nat} {A : Option Addr} {m c : Nat} {news : List Value} (hr : Rd w B size A m news) (h1 : ∀ u ∈ news, u.oneCell' = true)
    (hbytes : (n + m) * bytes ≤ 140737488355328) (hb0 : 0 < bytes) (hbase : base ≤ w.heap.size) :
    ∃ v' w', (Builtin.append_ #[t, t] ty #[v, .slice A m c]).run P w = .ok v' w' ∧ w'.ownsRow base e size v' (n + m) (xs ++ news) ∧ Below base w w' := by
  have h63 : n + m ≤ maxLen := by have := Nat.le_mul_of_pos_right (n + m) hb0; unfold maxLen; omega
  cases A with
  | none =>
    have hm : m = 0 := by
      rcases Nat.eq_zero_or_pos m with h0 | h0
      · exact h0
      · obtain ⟨ad, h, _⟩ := hr.2 h0; cases h
    subst hm
    have hn : news = [] := List.eq_nil_of_length_eq_zero (by simpa using hr.1)
    subst hn
    exact ⟨v, w, run_append_nil w ht hi hown c, by simpa using hown, Below.refl _ _⟩
  | some ad =>
    have hcells : ∀ j u, news[j]? = some u → w.cell? (ad.add j) = some u := by
      intro j u hu
      rcases Nat.eq_zero_or_pos m with h0 | h0
      · subst h0
        have hn : news = [] := List.eq_nil_of_length_eq_zero (by simpa using hr.1)
        subst hn; simp at hu
      · obtain ⟨ad', h, _, hc⟩ := hr.2 h0
        cases h
        exact hc j u hu
    obtain ⟨v', w', hrun, h2, h3, _⟩ := run_append_own (P := P) w base t ty e i z size bytes ht hi hz hsize hby hzs hsz v n xs hown ad m c news hr.1 hcells h1 h63 hbytes hbase
    exact ⟨v', w', hrun, h2, (Below.refl base w).grown h3 hbase (fun k hk => (hown.lt k hk).1)⟩
theorem wp_appRd {P : Program} {w : World} {o : Oper} {a : Act} {K : Act → World → Prop} {Q : Exit → Act → World → Prop} (s x : Operand) (t : TypeId)
    (ho : o.op = .call { callee := .builtin .append, args := #[s, x], argTypes := #[t, t] })
    (base : Nat) (e : TypeId) (i : TypeInfo) (z : Value) (size bytes : Nat) (ht : P.underlying t = some (.slice e)) (hi : P.info? e = some i) (hz : i.zero = some z)
    (hsize : i.size = size) (hby : i.bytes = bytes) (hzs : z.cells.size = size) (hsz : 0 < size)
    (v : Value) (n : Nat) (xs : List Value) (hs : a.eval s = v) (hown : w.ownsRow base e size v n xs)
    (B : Nat) (A : Option Addr) (m c : Nat) (news : List Value) (hx : a.eval x = .slice A m c) (hr : Rd w B size A m news) (h1 : ∀ u ∈ news, u.oneCell' = true)
    (hbytes : (n + m) * bytes ≤ 140737488355328) (hb0 : 0 < bytes) (hbase : base ≤ w.heap.size)
    (h : ∀ v' w', w'.ownsRow base e size v' (n + m) (xs ++ news) → Below base w w' → K (a.put o.dst v') w') : o.wp P a w K Q := by
  obtain ⟨v', w', hrun, h2, h3⟩ := run_appRd (P := P) (ty := o.type) ht hi hz hsize hby hzs hsz hown (c := c) hr h1 hbytes hb0 hbase
  unfold Oper.wp execOp
  simp only [ho, resolve, invoke, builtin, Sem.run_bind, Sem.run_pure, Result.andThen_ok, List.map_toArray, List.map_cons, List.map_nil, hs, hx, hrun]
  exact h v' w' h2 h3
theorem wpList_appRd {P : Program} {w : World} {ops : Array Oper} {rest : List Oper} {o : Oper} {a : Act} {Q : Exit → Act → World → Prop} (hgd : o.guard = none) (s x : Operand) (t : TypeId)
    (ho : o.op = .call { callee := .builtin .append, args := #[s, x], argTypes := #[t, t] })
    (base : Nat) (e : TypeId) (i : TypeInfo) (z : Value) (size bytes : Nat) (ht : P.underlying t = some (.slice e)) (hi : P.info? e = some i) (hz : i.zero = some z)
    (hsize : i.size = size) (hby : i.bytes = bytes) (hzs : z.cells.size = size) (hsz : 0 < size)
    (v : Value) (n : Nat) (xs : List Value) (hs : a.eval s = v) (hown : w.ownsRow base e size v n xs)
    (B : Nat) (A : Option Addr) (m c : Nat) (news : List Value) (hx : a.eval x = .slice A m c) (hr : Rd w B size A m news) (h1 : ∀ u ∈ news, u.oneCell' = true)
    (hbytes : (n + m) * bytes ≤ 140737488355328) (hb0 : 0 < bytes) (hbase : base ≤ w.heap.size)
    (h : ∀ v' w', w'.ownsRow base e size v' (n + m) (xs ++ news) → Below base w w' → wpList P ops Q rest (a.put o.dst v') w') : wpList P ops Q (o :: rest) a w :=
  wpList_plain hgd fun _ hK => wp_appRd s x t ho base e i z size bytes ht hi hz hsize hby hzs hsz v n xs hs hown B A m c news hx hr h1 hbytes hb0 hbase fun v' w' h2 h3 => hK _ _ (h v' w' h2 h3)

end Go.Proofs.YtplgghjdidmcfaaGreatDoor
namespace Go.Proofs.YtplgghjdidmcfaaGreatDoor
/-- One step from the lowest bit on. -/
def lsb (x : Nat) : Nat := (x / 2) ^^^ ((x % 2) * 2197175160)
def lsbN : Nat → Nat → Nat
  | 0, x => x
  | n + 1, x => lsb (lsbN n x)
/-- A whole byte. -/
def lsbByte (x : Nat) (c : UInt8) : Nat := lsbN 8 (x ^^^ c.toNat)
def lsbAll (x : Nat) (l : List UInt8) : Nat := l.foldl lsbByte x
/-- One step from the highest bit on, a bit of input. -/
def msb (x b : Nat) : Nat := if (x / 2147483648) ^^^ b = 1 then (x * 2 % 4294967296) ^^^ 517762881 else x * 2 % 4294967296
def msbN (c : Nat) : Nat → Nat → Nat
  | 0, x => x
  | n + 1, x => msb (msbN c n x) (c / 2 ^ n % 2)
def msbByte (x : Nat) (c : UInt8) : Nat := msbN c.toNat 8 x
def msbAll (x : Nat) (l : List UInt8) : Nat := l.foldl msbByte x
/-- The bits from behind, the n lowest ones done. -/
def backN (x : Nat) : Nat → Nat
  | 0 => 0
  | n + 1 => backN x n ||| ((x / 2 ^ n % 2) * 2 ^ (31 - n))

/-- x has the bits of y from behind. -/
def Turned (x y : Nat) : Prop := x < 4294967296 ∧ y < 4294967296 ∧ ∀ i, i < 32 → x.testBit i = y.testBit (31 - i)

theorem msb_lt (x b : Nat) : msb x b < 4294967296 := by
  unfold msb
  have h : x * 2 % 4294967296 < 2 ^ 32 := Nat.mod_lt _ (by decide)
  split
  · exact Nat.xor_lt_two_pow h (by decide)
  · exact h
theorem lsb_walk (Y : Nat) (hY : Y < 4294967296) : bits BinOp.xor IntKind.u32 ((Y : Int) / 2) (bits BinOp.and IntKind.u32 (Y : Int) 1 * 2197175160 % 4294967296) = ((lsb Y : Nat) : Int) := by
  have h1 := u32_and_nat Y 1 hY (by omega)
  rw [nat_mask1] at h1
  rw [show ((1 : Int)) = ((1 : Nat) : Int) from rfl, h1]
  have h2 : ((Y % 2 : Nat) : Int) * 2197175160 % 4294967296 = ((Y % 2 * 2197175160 : Nat) : Int) := by omega
  rw [h2, show (Y : Int) / 2 = ((Y / 2 : Nat) : Int) from by omega]
  exact u32_xor_nat _ _ (by omega) (by omega)
theorem take_succ_getD (l : List UInt8) (k : Nat) (h : k < l.length) : l.take (k + 1) = l.take k ++ [l.getD k 0] := by
  rw [List.take_succ_eq_append_getElem h, List.getD_eq_getElem?_getD, List.getElem?_eq_getElem h]; rfl
theorem lsbAll_snoc (x : Nat) (l : List UInt8) (k : Nat) (h : k < l.length) : lsbAll x (l.take (k + 1)) = lsbByte (lsbAll x (l.take k)) (l.getD k 0) := by
  unfold lsbAll
  rw [take_succ_getD l k h, List.foldl_append]; rfl
theorem msbAll_snoc (x : Nat) (l : List UInt8) (k : Nat) (h : k < l.length) : msbAll x (l.take (k + 1)) = msbByte (msbAll x (l.take k)) (l.getD k 0) := by
  unfold msbAll
  rw [take_succ_getD l k h, List.foldl_append]; rfl
theorem lsb_lt (x : Nat) (h : x < 4294967296) : lsb x < 4294967296 := by
  unfold lsb
  exact Nat.xor_lt_two_pow (n := 32) (by omega) (by rcases Nat.mod_two_eq_zero_or_one x with e | e <;> rw [e] <;> decide)
theorem not32 (X : Nat) (hX : X < 4294967296) : 4294967295 ^^^ X = 4294967295 - X := by
  have h := congrArg BitVec.toNat (BitVec.allOnes_xor (x := BitVec.ofNat 32 X))
  rw [BitVec.toNat_xor, BitVec.toNat_not, BitVec.toNat_ofNat, Nat.mod_eq_of_lt (by omega), BitVec.toNat_allOnes] at h
  simpa using h
theorem not_walk (X : Nat) (hX : X < 4294967296) : bits BinOp.xor IntKind.u32 IntKind.u32.max (X : Int) = ((4294967295 - X : Nat) : Int) := by
  have h := u32_xor_nat 4294967295 X (by omega) hX
  rw [not32 X hX] at h
  exact h
theorem bit_walk (Y c j : Nat) (hY : Y < 4294967296) (hc : c < 256) : bits BinOp.xor IntKind.u32 ((Y : Int) / 2147483648) (bits BinOp.and IntKind.u8 ((c : Int) / 2 ^ j) 1 % 4294967296) = (((Y / 2147483648) ^^^ (c / 2 ^ j % 2) : Nat) : Int) := by
  have e : ((c : Int) / 2 ^ j) = ((c / 2 ^ j : Nat) : Int) := by
    rw [Int.natCast_ediv, Int.natCast_pow]; rfl
  have hlt : c / 2 ^ j < 256 := Nat.lt_of_le_of_lt (Nat.div_le_self _ _) hc
  have h1 := u8_and_nat (c / 2 ^ j) 1 hlt (by omega)
  rw [nat_mask1] at h1
  rw [e, show ((1 : Int)) = ((1 : Nat) : Int) from rfl, h1]
  have h2 : ((c / 2 ^ j % 2 : Nat) : Int) % 4294967296 = ((c / 2 ^ j % 2 : Nat) : Int) := by omega
  rw [h2, show (Y : Int) / 2147483648 = ((Y / 2147483648 : Nat) : Int) from by omega]
  exact u32_xor_nat _ _ (by omega) (by omega)
theorem shl_walk (Y : Nat) : Value.int IntKind.u32 ((Y : Int) * 2 % 4294967296) = .int .u32 ((Y * 2 % 4294967296 : Nat) : Int) := congrArg _ (by omega)
theorem xor_walk (Y : Nat) : Value.int IntKind.u32 (bits BinOp.xor IntKind.u32 ((Y : Int) * 2 % 4294967296) 517762881) = .int .u32 (((Y * 2 % 4294967296) ^^^ 517762881 : Nat) : Int) := by
  rw [show (Y : Int) * 2 % 4294967296 = ((Y * 2 % 4294967296 : Nat) : Int) from by omega]
  exact congrArg _ (u32_xor_nat _ 517762881 (Nat.mod_lt _ (by omega)) (by omega))
theorem backN_lt (x n : Nat) : backN x n < 4294967296 := by
  induction n with
  | zero => show (0:Nat) < _; omega
  | succ n ih =>
    refine Nat.or_lt_two_pow (n := 32) ih ?_
    have h1 : x / 2 ^ n % 2 < 2 := Nat.mod_lt _ (by decide)
    have h2 : 2 ^ (31 - n) ≤ 2 ^ 31 := Nat.pow_le_pow_right (by omega) (by omega)
    have h3 : x / 2 ^ n % 2 * 2 ^ (31 - n) ≤ 1 * 2 ^ 31 := Nat.mul_le_mul (by omega) h2
    omega
theorem back_walk (X Y j : Nat) (hX : X < 4294967296) (hY : Y < 4294967296) : Value.int IntKind.u32 (bits BinOp.or IntKind.u32 (Y : Int) (bits BinOp.and IntKind.u32 ((X : Int) / 2 ^ j) 1 * 2 ^ (31 - j) % 4294967296)) = .int .u32 ((Y ||| X / 2 ^ j % 2 * 2 ^ (31 - j) : Nat) : Int) := by
  have e : ((X : Int) / 2 ^ j) = ((X / 2 ^ j : Nat) : Int) := by
    rw [Int.natCast_ediv, Int.natCast_pow]; rfl
  have hlt : X / 2 ^ j < 4294967296 := Nat.lt_of_le_of_lt (Nat.div_le_self _ _) hX
  have h1 := u32_and_nat (X / 2 ^ j) 1 hlt (by omega)
  rw [nat_mask1] at h1
  rw [e, show ((1 : Int)) = ((1 : Nat) : Int) from rfl, h1]
  have h3 : X / 2 ^ j % 2 * 2 ^ (31 - j) < 4294967296 := by
    have h1 : X / 2 ^ j % 2 < 2 := Nat.mod_lt _ (by decide)
    have h2 : 2 ^ (31 - j) ≤ 2 ^ 31 := Nat.pow_le_pow_right (by omega) (by omega)
    have h3 : X / 2 ^ j % 2 * 2 ^ (31 - j) ≤ 1 * 2 ^ 31 := Nat.mul_le_mul (by omega) h2
    omega
  have h2 : ((X / 2 ^ j % 2 : Nat) : Int) * 2 ^ (31 - j) % 4294967296 = ((X / 2 ^ j % 2 * 2 ^ (31 - j) : Nat) : Int) := by
    have e2 : ((X / 2 ^ j % 2 * 2 ^ (31 - j) : Nat) : Int) = ((X / 2 ^ j % 2 : Nat) : Int) * 2 ^ (31 - j) := by rw [Int.natCast_mul, Int.natCast_pow]; rfl
    rw [← e2]
    omega
  rw [h2]
  exact congrArg _ (u32_or_nat _ _ hY h3)
theorem lsbN_lt (n x : Nat) (h : x < 4294967296) : lsbN n x < 4294967296 := by
  induction n with
  | zero => exact h
  | succ n ih => exact lsb_lt _ ih
theorem tb (x i : Nat) : x.testBit i = decide (x / 2 ^ i % 2 = 1) := by
  rw [Nat.testBit_eq_decide_div_mod_eq]
theorem mod2_testBit (x : Nat) : x % 2 = (x.testBit 0).toNat := by
  rw [tb]; rcases Nat.mod_two_eq_zero_or_one x with e | e <;> simp [e]

def polyT (i : Nat) : Bool := Nat.testBit 2197175160 i
theorem poly_turn : ∀ i, i < 32 → Nat.testBit 2197175160 i = Nat.testBit 517762881 (31 - i) := by decide

theorem lsb_testBit (x i : Nat) : (lsb x).testBit i = ((x.testBit (i + 1)).xor (x.testBit 0 && Nat.testBit 2197175160 i)) := by
  unfold lsb
  rw [Nat.testBit_xor]
  have h1 : (x / 2).testBit i = x.testBit (i + 1) := by rw [Nat.testBit_succ]
  rw [h1]
  rcases Nat.mod_two_eq_zero_or_one x with e | e
  · have : x.testBit 0 = false := by rw [tb]; simp [e]
    simp [e, this]
  · have : x.testBit 0 = true := by rw [tb]; simp [e]
    simp [e, this]

theorem msb_testBit (x b i : Nat) (hx : x < 4294967296) (hb : b < 2) (hi : i < 32) : (msb x b).testBit i = (((decide (0 < i)) && x.testBit (i - 1)).xor ((x.testBit 31).xor (decide (b = 1)) && Nat.testBit 517762881 i)) := by
  have hs : (x * 2 % 4294967296).testBit i = ((decide (0 < i)) && x.testBit (i - 1)) := by
    rw [show (4294967296 : Nat) = 2 ^ 32 from rfl, Nat.testBit_mod_two_pow]
    cases i with
    | zero => simp [tb]
    | succ i =>
      rw [show x * 2 = 2 * x from Nat.mul_comm _ _, Nat.testBit_succ]
      simp [hi]
  have h31 : x / 2147483648 = (x.testBit 31).toNat := by
    rw [tb, show (2 : Nat) ^ 31 = 2147483648 from rfl]
    have : x / 2147483648 < 2 := by omega
    rcases (by omega : x / 2147483648 = 0 ∨ x / 2147483648 = 1) with e | e <;> simp [e]
  unfold msb
  rw [h31]
  rcases (by omega : b = 0 ∨ b = 1) with rfl | rfl <;> cases h : x.testBit 31 <;> simp [hs, Nat.testBit_xor]

/-- One bit fed to both. -/
theorem turned_step {x y b : Nat} (h : Turned x y) (hb : b < 2) : Turned (lsb (x ^^^ b)) (msb y b) := by
  obtain ⟨hx, hy, ht⟩ := h
  refine ⟨lsb_lt _ (Nat.xor_lt_two_pow (n := 32) hx (by omega)), msb_lt _ _, fun i hi => ?_⟩
  rw [lsb_testBit, msb_testBit y b (31 - i) hy hb (by omega), Nat.testBit_xor, Nat.testBit_xor, ht 0 (by omega), poly_turn i hi]
  have hb1 : b.testBit (i + 1) = false := by
    rw [tb]
    have : b / 2 ^ (i + 1) = 0 := Nat.div_eq_of_lt (Nat.lt_of_lt_of_le hb (by rw [Nat.pow_succ]; have := Nat.one_le_two_pow (n := i); omega))
    simp [this]
  have hb0 : b.testBit 0 = decide (b = 1) := by rw [tb]; rcases (by omega : b = 0 ∨ b = 1) with rfl | rfl <;> rfl
  rw [hb1, hb0, Bool.xor_false]
  congr 1
  by_cases h31 : i = 31
  · subst h31
    have : x.testBit 32 = false := Nat.testBit_lt_two_pow hx
    simp [this]
  · rw [ht (i + 1) (by omega)]
    have e : 31 - (i + 1) = 31 - i - 1 := by omega
    rw [e]
    have : 0 < 31 - i := by omega
    simp [this]

theorem lsb_xor2 (x d : Nat) : lsb (x ^^^ (2 * d)) = lsb x ^^^ d := by
  apply Nat.eq_of_testBit_eq
  intro i
  rw [lsb_testBit, Nat.testBit_xor, Nat.testBit_xor, Nat.testBit_xor, lsb_testBit]
  have h1 : (2 * d).testBit (i + 1) = d.testBit i := by rw [Nat.testBit_succ]; simp
  have h0 : (2 * d).testBit 0 = false := by rw [tb]; simp
  rw [h1, h0, Bool.xor_false]
  cases x.testBit (i + 1) <;> cases d.testBit i <;> simp

theorem lsbN_xor (n : Nat) : ∀ x c : Nat, ∃ z, z = lsbN n (x ^^^ c) ∧ ∀ y, Turned x y → Turned (z ^^^ (c / 2 ^ n)) (msbN c n y) := by
  induction n with
  | zero =>
    intro x c
    refine ⟨_, rfl, fun y h => ?_⟩
    have : x ^^^ c ^^^ c = x := by rw [Nat.xor_assoc, Nat.xor_self, Nat.xor_zero]
    simpa [lsbN, msbN, this] using h
  | succ n ih =>
    intro x c
    obtain ⟨z, hz, h⟩ := ih x c
    refine ⟨_, rfl, fun y hy => ?_⟩
    have h1 := turned_step (b := c / 2 ^ n % 2) (h y hy) (Nat.mod_lt _ (by decide))
    have e : lsb (z ^^^ (c / 2 ^ n) ^^^ (c / 2 ^ n % 2)) = lsbN (n + 1) (x ^^^ c) ^^^ (c / 2 ^ (n + 1)) := by
      show _ = lsb (lsbN n (x ^^^ c)) ^^^ _
      rw [← hz]
      have e2 : (c / 2 ^ n) ^^^ (c / 2 ^ n % 2) = 2 * (c / 2 ^ (n + 1)) := by
        rw [Nat.pow_succ, ← Nat.div_div_eq_div_mul]
        generalize c / 2 ^ n = m
        apply Nat.eq_of_testBit_eq
        intro i
        rw [Nat.testBit_xor]
        cases i with
        | zero => rw [tb, tb, tb]; simp
        | succ i =>
          rw [Nat.testBit_succ, Nat.testBit_succ (m % 2), Nat.testBit_succ (2 * (m / 2))]
          have : m % 2 / 2 = 0 := by omega
          simp [this]
      rw [Nat.xor_assoc, e2, lsb_xor2]
    rw [e] at h1
    exact h1

theorem turned_byte {x y : Nat} (c : UInt8) (h : Turned x y) : Turned (lsbByte x c) (msbByte y c) := by
  obtain ⟨z, hz, hh⟩ := lsbN_xor 8 x c.toNat
  have := hh y h
  have hc : c.toNat / 2 ^ 8 = 0 := Nat.div_eq_of_lt c.toNat_lt
  rw [hc, Nat.xor_zero, hz] at this
  exact this
theorem turned_all (l : List UInt8) : ∀ {x y : Nat}, Turned x y → Turned (lsbAll x l) (msbAll y l) := by
  induction l with
  | nil => intro x y h; exact h
  | cons c l ih => intro x y h; exact ih (turned_byte c h)

theorem backN_testBit (x n i : Nat) (hn : n ≤ 32) : (backN x n).testBit i = (decide (31 - i < n ∧ i < 32) && x.testBit (31 - i)) := by
  induction n with
  | zero => simp [backN]
  | succ n ih =>
    unfold backN
    rw [Nat.testBit_or, ih (by omega)]
    have e : (x / 2 ^ n % 2 * 2 ^ (31 - n)).testBit i = (decide (i = 31 - n) && x.testBit n) := by
      rw [tb x n]
      rcases Nat.mod_two_eq_zero_or_one (x / 2 ^ n) with e | e
      · simp [e]
      · rw [e, Nat.one_mul, Nat.testBit_two_pow]
        by_cases h : i = 31 - n
        · subst h; simp
        · have : ¬ 31 - n = i := fun hh => h hh.symm
          simp [h, this]
    rw [e]
    by_cases h : i = 31 - n
    · subst h
      have h2 : 31 - (31 - n) = n := by omega
      rw [h2]
      have h3 : ¬ n < n := by omega
      simp [h3]; intro; omega
    · by_cases hi : i < 32
      · have : (31 - i < n + 1) ↔ (31 - i < n) := by omega
        simp [h, this]
      · simp [h, hi]
theorem back_turned {x y : Nat} (h : Turned x y) : backN y 32 = x := by
  obtain ⟨hx, hy, ht⟩ := h
  apply Nat.eq_of_testBit_eq
  intro i
  rw [backN_testBit _ _ _ (Nat.le_refl _)]
  by_cases hi : i < 32
  · rw [ht i hi]
    have : 31 - i < 32 ∧ i < 32 := ⟨by omega, hi⟩
    simp [this]
  · have : x.testBit i = false := Nat.testBit_lt_two_pow (Nat.lt_of_lt_of_le hx (Nat.pow_le_pow_right (n := 2) (by omega) (by omega : 32 ≤ i)))
    simp [hi, this]
theorem turned_ones : Turned 4294967295 4294967295 := by
  refine ⟨by decide, by decide, fun i hi => ?_⟩
  have h : ∀ j, j < 32 → Nat.testBit 4294967295 j = true := by decide
  rw [h i hi, h (31 - i) (by omega)]
/-- The checksum, both ways. -/
def sumNat (l : List UInt8) : Nat := 4294967295 - lsbAll 4294967295 l
theorem sums_agree (l : List UInt8) : backN (msbAll 4294967295 l) 32 = lsbAll 4294967295 l := back_turned (turned_all l turned_ones)
theorem lsbAll_lt (l : List UInt8) : lsbAll 4294967295 l < 4294967296 := (turned_all l turned_ones).1
theorem msbAll_lt (l : List UInt8) : msbAll 4294967295 l < 4294967296 := (turned_all l turned_ones).2.1
theorem sumNat_lt (l : List UInt8) : sumNat l < 4294967296 := by unfold sumNat; omega
theorem msb_sum (l : List UInt8) : 4294967295 - backN (msbAll 4294967295 l) 32 = sumNat l := by rw [sums_agree]; rfl
end Go.Proofs.YtplgghjdidmcfaaGreatDoor
namespace Go.Proofs.YtplgghjdidmcfaaGreatDoor
open Go.RowKit
set_option maxRecDepth 100000 in
set_option maxHeartbeats 400000 in
theorem sumOf_any (s : ByteArray) (w : World) (hs : s.size ≤ 140737488351232) :
    Calls Tryz.prog 200 #[.string s] w fun e w' => e = .returned (.int .u32 (sumNat (L s) : Nat)) ∧ Below w.heap.size w w' := by
  have hcv := fun W => Lib.run_convert_string_bytes (P := Tryz.prog) W 9 119 5 s Tryz.underlying9 Tryz.underlying119 Tryz.underlying5
  go_enter Tryz.func200, Tryz.ntmps200
  go_wp2
  have hW : Below w.heap.size w (Lib.bytesWorld w 5 s) := bytesWorld_below w _ s
  have hcells := Lib.bytesWorld_cell w 5 s
  generalize Lib.bytesWorld w 5 s = w1 at hW hcells ⊢
  have Hc := Lib.hid hcells; clear hcells
  clear hcv
  go_loop [3, 9] (fun x i => ∃ k : Nat, k ≤ s.size ∧ i = .int .i64 k ∧ x = .int .u32 (lsbAll 4294967295 (s.data.toList.take k) : Nat)) (fun _ i => s.size - (intOf i).toNat)
  case atStart => exact ⟨0, Nat.zero_le _, rfl, rfl⟩
  case round =>
    obtain ⟨k, hk, rfl, rfl⟩ := hrel
    have hX := lsbAll_lt (s.data.toList.take k)
    have HN : Hid (k < s.size → lsbAll 4294967295 (s.data.toList.take (k + 1)) = lsbN 8 (lsbAll 4294967295 (s.data.toList.take k) ^^^ (s.data.toList.getD k 0).toNat)) := fun h => lsbAll_snoc _ _ k (by rw [blen]; exact h)
    have HE : Hid (k = s.size → lsbAll 4294967295 (s.data.toList.take k) = lsbAll 4294967295 s.data.toList) := fun h => by rw [List.take_of_length_le (by rw [blen]; omega)]
    generalize lsbAll 4294967295 (s.data.toList.take k) = X at *
    by_cases hlt : k < s.size
    · have hc := Hc.out k hlt
      have hb : (s.data.toList.getD k 0).toNat < 256 := UInt8.toNat_lt _
      have hxor := u32_xor_nat X (s.data.toList.getD k 0).toNat hX (by omega)
      generalize (s.data.toList.getD k 0).toNat = c at *
      go_wp2
      go_loop [3, 17] (fun x i => ∃ j : Nat, j ≤ 8 ∧ i = .int .i64 j ∧ x = .int .u32 (lsbN j (X ^^^ c) : Nat)) (fun _ i => 8 - (intOf i).toNat)
      case atStart => exact ⟨0, Nat.zero_le _, rfl, rfl⟩
      case round =>
        obtain ⟨j, hj, rfl, rfl⟩ := hrel
        by_cases hlt8 : j < 8
        · have hY : lsbN j (X ^^^ c) < 4294967296 := lsbN_lt _ _ (Nat.xor_lt_two_pow (n := 32) hX (by omega))
          have HS : Hid (lsbN (j + 1) (X ^^^ c) = lsb (lsbN j (X ^^^ c))) := rfl
          generalize lsbN j (X ^^^ c) = Y at *
          go_wp2
          go_round
          case rel => exact ⟨j + 1, by omega, by go_num, by rw [HS.out, lsb_walk Y hY]⟩
          case measure => simp [intOf]; omega
        · obtain rfl : j = 8 := by omega
          go_wp2
          go_round
          case rel => exact ⟨k + 1, by omega, by go_num, by rw [HN.out hlt]⟩
          case measure => simp [intOf]; omega
    · have hs32 : IntKind.u32.signed = false := rfl
      have HE' := Lib.hid (HE.out (by omega)); clear HE
      go_wp2
      go_ret
      exact ⟨ret_int (by rw [not_walk X hX, HE'.out]; rfl), hW⟩
set_option maxRecDepth 100000 in
set_option maxHeartbeats 400000 in
theorem sumRef_any (s : ByteArray) (w : World) (hs : s.size ≤ 140737488351232) :
    Calls Tryz.prog 178 #[.string s] w fun e w' => e = .returned (.int .u32 (sumNat (L s) : Nat)) ∧ Below w.heap.size w w' := by
  have hcv := fun W => Lib.run_convert_string_bytes (P := Tryz.prog) W 9 119 5 s Tryz.underlying9 Tryz.underlying119 Tryz.underlying5
  go_enter Tryz.func178, Tryz.ntmps178
  go_wp2
  have hW : Below w.heap.size w (Lib.bytesWorld w 5 s) := bytesWorld_below w _ s
  have hcells := Lib.bytesWorld_cell w 5 s
  generalize Lib.bytesWorld w 5 s = w1 at hW hcells ⊢
  have Hc := Lib.hid hcells; clear hcells
  clear hcv
  have HZ := Lib.hid (sums_agree s.data.toList)
  go_loop [3, 13] (fun x i => ∃ k : Nat, k ≤ s.size ∧ i = .int .i64 k ∧ x = .int .u32 (msbAll 4294967295 (s.data.toList.take k) : Nat)) (fun _ i => s.size - (intOf i).toNat)
  case atStart => exact ⟨0, Nat.zero_le _, rfl, rfl⟩
  case round =>
    obtain ⟨k, hk, rfl, rfl⟩ := hrel
    have hX := msbAll_lt (s.data.toList.take k)
    have HN : Hid (k < s.size → msbAll 4294967295 (s.data.toList.take (k + 1)) = msbN (s.data.toList.getD k 0).toNat 8 (msbAll 4294967295 (s.data.toList.take k))) := fun h => msbAll_snoc _ _ k (by rw [blen]; exact h)
    have HE : Hid (k = s.size → msbAll 4294967295 (s.data.toList.take k) = msbAll 4294967295 s.data.toList) := fun h => by rw [List.take_of_length_le (by rw [blen]; omega)]
    generalize msbAll 4294967295 (s.data.toList.take k) = X at *
    by_cases hlt : k < s.size
    · have hc := Hc.out k hlt
      have hb : (s.data.toList.getD k 0).toNat < 256 := UInt8.toNat_lt _
      generalize (s.data.toList.getD k 0).toNat = c at *
      go_wp2
      go_loop [3, 17] (fun x i => ∃ j : Nat, j ≤ 8 ∧ i = .int .i64 j ∧ x = .int .u32 (msbN c j X : Nat)) (fun _ i => 8 - (intOf i).toNat)
      case atStart => exact ⟨0, Nat.zero_le _, rfl, rfl⟩
      case round =>
        obtain ⟨j, hj, rfl, rfl⟩ := hrel
        by_cases hlt8 : j < 8
        · have HS : Hid (msbN c (j + 1) X = msb (msbN c j X) (c / 2 ^ j % 2)) := rfl
          have hY : msbN c j X < 4294967296 := by
            cases j with
            | zero => exact hX
            | succ j => exact msb_lt _ _
          generalize msbN c j X = Y at *
          have hbit := bit_walk Y c j hY hb
          have hm1 : ∀ b, Y / 2147483648 ^^^ b = 1 → msb Y b = (Y * 2 % 4294967296) ^^^ 517762881 := fun b h => by unfold msb; rw [if_pos h]
          have hm2 : ∀ b, ¬ Y / 2147483648 ^^^ b = 1 → msb Y b = Y * 2 % 4294967296 := fun b h => by unfold msb; rw [if_neg h]
          have Hm1 := Lib.hid (hm1 (c / 2 ^ j % 2))
          have Hm2 := Lib.hid (hm2 (c / 2 ^ j % 2))
          clear hm1 hm2
          generalize Y / 2147483648 ^^^ (c / 2 ^ j % 2) = b at *
          by_cases hb1 : b = 1
          · have Hb := Lib.hid hb1
            have hbb : (((b : Nat) : Int) == 1) = true := by rw [hb1]; rfl
            clear hb1
            go_wp2
            go_round
            case rel => exact ⟨j + 1, by omega, by go_num, by rw [HS.out, Hm1.out Hb.out]; exact xor_walk Y⟩
            case measure => simp [intOf]; omega
          · have hbb : (((b : Nat) : Int) == 1) = false := by simp; omega
            have Hb := Lib.hid hb1
            clear hb1
            go_wp2
            go_round
            case rel => exact ⟨j + 1, by omega, by go_num, by rw [HS.out, Hm2.out Hb.out]; exact shl_walk Y⟩
            case measure => simp [intOf]; omega
        · obtain rfl : j = 8 := by omega
          go_wp2
          go_round
          case rel => exact ⟨k + 1, by omega, by go_num, by rw [HN.out hlt]⟩
          case measure => simp [intOf]; omega
    · have hs32 : IntKind.u32.signed = false := rfl
      have HE' := Lib.hid (HE.out (by omega)); clear HE
      go_wp2
      go_loop [8, 36] (fun x i => ∃ j : Nat, j ≤ 32 ∧ i = .int .i64 j ∧ x = .int .u32 (backN X j : Nat)) (fun _ i => 32 - (intOf i).toNat)
      case atStart => exact ⟨0, Nat.zero_le _, rfl, rfl⟩
      case round =>
        obtain ⟨j, hj, rfl, rfl⟩ := hrel
        by_cases hlt8 : j < 32
        · have hB := backN_lt X j
          have HS : Hid (backN X (j + 1) = backN X j ||| (X / 2 ^ j % 2 * 2 ^ (31 - j))) := rfl
          generalize backN X j = Y at *
          go_wp2
          go_round
          case rel => exact ⟨j + 1, by omega, by go_num, by rw [HS.out]; exact back_walk X Y j hX hB⟩
          case measure => simp [intOf]; omega
        · obtain rfl : j = 32 := by omega
          have hB := backN_lt X 32
          have HM := Lib.hid (msb_sum s.data.toList)
          go_wp2
          go_ret
          exact ⟨ret_int (by rw [not_walk _ hB, HE'.out, HM.out]; rfl), hW⟩

/-- The four bytes of a sum. -/
def fourL (x : Nat) : List UInt8 := [UInt8.ofNat x, UInt8.ofNat (x / 256), UInt8.ofNat (x / 65536), UInt8.ofNat (x / 16777216)]
def fourB (x : Nat) : ByteArray := ⟨(fourL x).toArray⟩
theorem four_cells (x : Nat) (hx : x < 4294967296) : (#[Value.int .u8 ((x : Int) % 256), .int .u8 ((x : Int) / 256 % 256), .int .u8 ((x : Int) / 65536 % 256), .int .u8 ((x : Int) / 16777216)] : Array Value).toList = byteCells (fourL x) := by
  have h0 : (x : Int) % 256 = ((UInt8.ofNat x).toNat : Int) := by rw [UInt8.toNat_ofNat']; omega
  have h1 : (x : Int) / 256 % 256 = ((UInt8.ofNat (x / 256)).toNat : Int) := by rw [UInt8.toNat_ofNat']; omega
  have h2 : (x : Int) / 65536 % 256 = ((UInt8.ofNat (x / 65536)).toNat : Int) := by rw [UInt8.toNat_ofNat']; omega
  have h3 : (x : Int) / 16777216 = ((UInt8.ofNat (x / 16777216)).toNat : Int) := by rw [UInt8.toNat_ofNat']; omega
  rw [h0, h1, h2, h3]
  rfl
theorem four_conv (x : Nat) (hx : x < 4294967296) (w : World) :
    (convert 119 9 (.slice (some ⟨w.heap.size, 0, none⟩) 4 4)).run Tryz.prog (w.alloc (.cells #[Value.int .u8 ((x : Int) % 256), .int .u8 ((x : Int) / 256 % 256), .int .u8 ((x : Int) / 65536 % 256), .int .u8 ((x : Int) / 16777216)] 5)) =
      .ok (.string (fourB x)) (w.alloc (.cells #[Value.int .u8 ((x : Int) % 256), .int .u8 ((x : Int) / 256 % 256), .int .u8 ((x : Int) / 65536 % 256), .int .u8 ((x : Int) / 16777216)] 5)) :=
  run_bytes_string _ Tryz.underlying119 Tryz.underlying5 Tryz.underlying9 (A := some ⟨w.heap.size, 0, none⟩) (n := 4) (c := 4) (B := w.heap.size + 1) (l := fourL x)
    (by rw [← four_cells x hx]; exact Rd.new_ (n := 4) (size := 1) w _ _ (Nat.lt_succ_self _) rfl)
set_option maxRecDepth 100000 in
set_option maxHeartbeats 400000 in
theorem sumBytes_any (x : Nat) (hx : x < 4294967296) (w : World) :
    Calls Tryz.prog 199 #[.int .u32 (x : Int)] w fun e w' => e = .returned (.string (fourB x)) ∧ Below w.heap.size w w' := by
  have hcv := four_conv x hx w
  go_enter Tryz.func199, Tryz.ntmps199
  go_wp2
  go_ret
  exact ⟨rfl, (Below.refl _ _).alloc (Nat.le_refl _) _⟩
set_option maxRecDepth 100000 in
set_option maxHeartbeats 400000 in
theorem sumFour_any (x : Nat) (hx : x < 4294967296) (w : World) :
    Calls Tryz.prog 177 #[.int .u32 (x : Int)] w fun e w' => e = .returned (.string (fourB x)) ∧ Below w.heap.size w w' := by
  have hcv := four_conv x hx w
  go_enter Tryz.func177, Tryz.ntmps177
  go_wp2
  go_ret
  exact ⟨rfl, (Below.refl _ _).alloc (Nat.le_refl _) _⟩
/-- Right: the last four bytes are the sum of the others. -/
def rightB (s : ByteArray) : Bool := decide (4 ≤ s.size) && ((fourB (sumNat (L (s.extract 0 (s.size - 4))))).toList == (s.extract (s.size - 4) s.size).toList)
set_option maxRecDepth 100000 in
set_option maxHeartbeats 400000 in
theorem sumRight_any (s : ByteArray) (hs : s.size ≤ 140737488351232) (w : World) :
    Calls Tryz.prog 171 #[.string s] w fun e w' => e = .returned (.bool (rightB s)) ∧ Below w.heap.size w w' := by
  by_cases h4 : 4 ≤ s.size
  · have HR : Hid (rightB s = ((fourB (sumNat (L (s.extract 0 (s.size - 4))))).toList == (s.extract (s.size - 4) s.size).toList)) := by
      unfold Hid rightB; simp [h4]
    have hg2 : decide ((4 : Int) ≤ (s.size : Int)) = true := by simp; omega
    have hg3 : decide (4 ≤ s.size) = true := by simp; omega
    go_enter Tryz.func171, Tryz.ntmps171
    go_wp2_with fail
    refine wp_region_quiet_below (by kernel_rfl) (by kernel_rfl) ?_
    repeat (go_big_quiet_step ((first
      | (go_at_call 200; exact Calls.regrown_of (sumOf_any _ _ (by first | omega | (simp <;> omega))))
      | (go_at_call 199; exact Calls.regrown_of (sumBytes_any _ (sumNat_lt _) _)))))
    refine wpQuiet_nil ?_
    intro w2 hb20
    have hb2 := below_of_regrown hb20
    clear hb20
    go_wp2
    go_ret
    exact ⟨ret_bool HR.out.symm, hb2⟩
  · have HR : Hid (rightB s = false) := by
      unfold Hid rightB; simp [h4]
    have hg2 : decide ((4 : Int) ≤ (s.size : Int)) = false := by simp; omega
    have hg3 : decide (4 ≤ s.size) = false := by simp; omega
    go_enter Tryz.func171, Tryz.ntmps171
    go_wp2_with fail
    refine wp_region_quiet_below (by kernel_rfl) (by kernel_rfl) ?_
    repeat (go_big_quiet_step (fail))
    refine wpQuiet_nil ?_
    intro w2 hb20
    have hb2 := below_of_regrown hb20
    clear hb20
    go_wp2
    go_ret
    exact ⟨ret_bool HR.out.symm, hb2⟩
theorem right_more (s : ByteArray) (h : 4 < s.size) : rightB s = ((fourB (sumNat (L (s.extract 0 (s.size - 4))))).toList == (s.extract (s.size - 4) s.size).toList) := by
  unfold rightB; simp; omega
theorem right_four (s : ByteArray) (h : s.size = 4) : rightB s = ((fourB (sumNat (L ByteArray.empty))).toList == (s.extract 0 4).toList) := by
  unfold rightB; rw [h]
  have : s.extract 0 (4 - 4) = ByteArray.empty := by simp
  rw [this]; simp
theorem right_less (s : ByteArray) (h : s.size < 4) : rightB s = false := by
  unfold rightB; simp; omega
end Go.Proofs.YtplgghjdidmcfaaGreatDoor
