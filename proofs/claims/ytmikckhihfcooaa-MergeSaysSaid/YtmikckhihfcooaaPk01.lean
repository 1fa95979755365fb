/- Words for memory that all walks of this seat share: a slice that reads as a list of cells; small facts on worlds. No premise beyond each lemma's own. Operations on a text, as plain functions. No program in sight. Rows of operations past each other, as plain functions. No program in sight. -/
import Derived.Test.YtmikckhihfcooaaRows
import Derived.WalkKit
import Derived.WalkSpells
import Derived.WalkLawsBesides
import Derived.Deep.QuietTactic
import Derived.BigQuiet
import Derived.Deep.Draws
import Derived.Deep.AppendLies
import Derived.Lib.Hide
import Derived.Deep.Light
import Derived.Lib.QuietBelow
import Derived.Deep.RegionWith
import Derived.Deep.RegionLaw
import Derived.Deep.DeepCutAuto
import Derived.Lib.ConvBytes
import Derived.Laws.BytesArg
import Derived.Laws.IdiomStrings
namespace Go.Proofs.Ytmikckhihfcooaa
open Go.RowKit

theorem blk_add (a : Addr) (n : Nat) : (a.add n).block = a.block := by unfold Addr.add; split <;> rfl
theorem add_add (a : Addr) (i j : Nat) : (a.add i).add j = a.add (i + j) := by
  unfold Addr.add
  by_cases hi : i = 0 <;> by_cases hj : j = 0 <;> simp [hi, hj, Nat.add_assoc]

/-- The slice value `.slice A n c` of elements of `size` cells reads as the cells `xs`; it lies below block `B`. -/
def Rd (w : World) (B size : Nat) (A : Option Addr) (n : Nat) (xs : List Value) : Prop :=
  xs.length = n * size ∧ (0 < n → ∃ ad, A = some ad ∧ ad.block < B ∧ ∀ j u, xs[j]? = some u → w.cell? (ad.add j) = some u)

section
variable {w w' : World} {B B' size n : Nat} {A : Option Addr} {xs : List Value}
theorem Rd.nil_ : Rd w B size A 0 [] := ⟨by simp, fun h => absurd h (by omega)⟩
theorem Rd.at_ {k : Nat} (h : Rd w B 1 A n xs) (hk : k < n) : ∃ ad u, A = some ad ∧ ad.block < B ∧ xs[k]? = some u ∧ w.cell? (ad.add k) = some u := by
  obtain ⟨ad, e, hb, hc⟩ := h.2 (by omega)
  have hl : k < xs.length := by have := h.1; omega
  exact ⟨ad, xs[k], e, hb, List.getElem?_eq_getElem hl, hc k _ (List.getElem?_eq_getElem hl)⟩
theorem Rd.keep (h : Rd w B size A n xs) (hk : ∀ p : Addr, p.block < B → w'.cell? p = w.cell? p) : Rd w' B size A n xs :=
  ⟨h.1, fun hn => by
    obtain ⟨ad, e, hb, hc⟩ := h.2 hn
    exact ⟨ad, e, hb, fun j u hu => (hk _ (by rw [blk_add]; exact hb)).trans (hc j u hu)⟩⟩
theorem Rd.more (h : Rd w B size A n xs) (hB : B ≤ B') : Rd w B' size A n xs :=
  ⟨h.1, fun hn => by
    obtain ⟨ad, e, hb, hc⟩ := h.2 hn
    exact ⟨ad, e, by omega, hc⟩⟩
theorem Rd.below (h : Rd w B size A n xs) (hb : Below B w w') : Rd w' B size A n xs := h.keep fun _ hp => hb.cell hp
theorem Rd.drew (h : Rd w B size A n xs) : Rd w.drew B size A n xs := h
theorem Rd.drewN (h : Rd w B size A n xs) (k : Nat) : Rd (w.drewN k) B size A n xs := h
theorem Rd.alloc (h : Rd w B size A n xs) (hB : B ≤ w.heap.size) (o : Obj) : Rd (w.alloc o) B size A n xs := h.keep fun p hp => World.cell?_alloc_lt w o p (by omega)
theorem Rd.of_own {base : Nat} {e : TypeId} {c : Nat} (h : w.ownsRow base e size (.slice A n c) n xs) : Rd w w.heap.size size A n xs := by
  refine ⟨h.1, fun hn => ?_⟩
  obtain ⟨g, cap, hv, _, hlt⟩ := h.form hn
  have hA : A = some ⟨g, 0, none⟩ := by injection hv
  subst hA
  exact ⟨_, rfl, hlt, h.cells (g := g) rfl⟩
end

theorem cell_row (w : World) (g i : Nat) (cs : Array Value) (t : TypeId) (hg : w.heap[g]? = some (.cells cs t (0, 0))) : w.cell? ((⟨g, 0, none⟩ : Addr).add i) = cs[i]? := by
  have hadd : (⟨g, 0, none⟩ : Addr).add i = ⟨g, i, none⟩ := by unfold Addr.add; split <;> simp_all
  rw [hadd, cell_of_row w g i cs t (0, 0) hg]
/-- A block that reads whole is a slice that reads. -/
theorem Rd.of_heap {w : World} {g : Nat} {cs : Array Value} {t : TypeId} {B size n : Nat} (hg : w.heap[g]? = some (.cells cs t (0, 0))) (hB : g < B) (hn : cs.size = n * size) :
    Rd w B size (some ⟨g, 0, none⟩) n cs.toList :=
  ⟨by simpa using hn, fun _ => ⟨_, rfl, hB, fun j u hu => by rw [cell_row w g j cs t hg]; simpa using hu⟩⟩
theorem Rd.new_ (w : World) (cs : Array Value) (t : TypeId) {B size n : Nat} (hB : w.heap.size < B) (hn : cs.size = n * size) :
    Rd (w.alloc (.cells cs t)) B size (some ⟨w.heap.size, 0, none⟩) n cs.toList :=
  Rd.of_heap (heap_alloc_new w _) hB hn

theorem ret_int {k : IntKind} {a b : Int} (h : a = b) : Ending.returned (.int k a) = .returned (.int k b) := by rw [h]
theorem ret_bool {a b : Bool} (h : a = b) : Ending.returned (.bool a) = .returned (.bool b) := by rw [h]
theorem bcell {w w1 : World} (hb : Below w.heap.size w w1) : (∀ b o, b < w.heap.size → w1.cell? ⟨b, o, none⟩ = w.cell? ⟨b, o, none⟩) ∧ (∀ b o, b < w.heap.size → w1.frozen? ⟨b, o, none⟩ = w.frozen? ⟨b, o, none⟩) :=
  ⟨fun b o h => hb.cell (p := ⟨b, o, none⟩) h, fun b o h => hb.frozen (p := ⟨b, o, none⟩) h⟩

theorem blen (s : ByteArray) : s.data.toList.length = s.size := by rw [Array.length_toList]; rfl
/-- Bytes as cells. -/
def byteCells (l : List UInt8) : List Value := l.map fun b => .int .u8 (b.toNat : Int)
theorem bytesWorld_below (w : World) (e : TypeId) (s : ByteArray) : Below w.heap.size w (Lib.bytesWorld w e s) :=
  ⟨rfl, rfl, rfl, by rw [Lib.bytesWorld_size]; omega, fun k hk => Lib.bytesWorld_at_old w e s k hk⟩
theorem bytesWorld_rd (w : World) (e : TypeId) (s : ByteArray) {B : Nat} (hB : w.heap.size < B) : Rd (Lib.bytesWorld w e s) B 1 (some ⟨w.heap.size, 0, none⟩) s.size (byteCells s.data.toList) := by
  refine ⟨by rw [byteCells, List.length_map, blen]; omega, fun _ => ⟨_, rfl, hB, fun j u hu => ?_⟩⟩
  have hj : j < s.data.toList.length := by
    have := (List.getElem?_eq_some_iff.1 hu).1
    simpa [byteCells] using this
  have hadd : (⟨w.heap.size, 0, none⟩ : Addr).add j = ⟨w.heap.size, j, none⟩ := by unfold Addr.add; split <;> simp_all
  rw [hadd, Lib.bytesWorld_cell w e s j (by rw [blen] at hj; exact hj), ← hu, byteCells, List.getElem?_map, List.getD_eq_getElem?_getD, List.getElem?_eq_getElem hj]
  rfl

theorem below_of_regrown {w w' : World} (h : ∃ p : Regrown, w' = Go.Sort.grow (redrawn w p.d) p.os) : Below w.heap.size w w' := by
  obtain ⟨p, rfl⟩ := h
  exact below_regrown w p.d p.os
theorem drew_cell (w : World) (a : Addr) : w.drew.cell? a = w.cell? a := rfl
theorem bthen {w w2 w3 : World} (h : Below w.heap.size w w2) (k : Below w2.heap.size w2 w3) : Below w.heap.size w w3 := h.trans (k.mono h.size)
theorem beqB (x y : ByteArray) : (x.toList == y.toList) = decide (x = y) := by
  rw [ByteArray.toList_eq, ByteArray.toList_eq, Bool.eq_iff_iff, beq_iff_eq, decide_eq_true_iff]
  constructor
  · intro h
    cases x; cases y
    simp only [ByteArray.mk.injEq]
    exact Array.toList_inj.1 h
  · rintro rfl; rfl
/-- The string of these bytes. -/
def S (l : List UInt8) : ByteArray := ⟨l.toArray⟩
/-- The bytes of a string. -/
def L (s : ByteArray) : List UInt8 := s.data.toList
theorem L_S (l : List UInt8) : L (S l) = l := rfl
theorem S_L (s : ByteArray) : S (L s) = s := rfl
theorem L_len (s : ByteArray) : (L s).length = s.size := blen s
theorem L_inj {a b : ByteArray} (h : L a = L b) : a = b := by have := congrArg S h; exact this
theorem L_append (s t : ByteArray) : L (s ++ t) = L s ++ L t := by simp [L]
theorem L_extract (s : ByteArray) (a b : Nat) : L (s.extract a b) = ((L s).drop a).take (b - a) := by simp [L, ByteArray.data_extract, Array.toList_extract, List.extract_eq_take_drop]
theorem L_empty : L ByteArray.empty = [] := rfl
theorem S_data (l : List UInt8) : (S l).data.toList = l := rfl
theorem S_of (s : ByteArray) : S s.data.toList = s := rfl
theorem S_size (l : List UInt8) : (S l).size = l.length := by rw [← blen]; rfl
theorem S_inj {a b : List UInt8} (h : S a = S b) : a = b := by have := congrArg (fun s => s.data.toList) h; exact this
theorem extract_S (s : ByteArray) (a b : Nat) : s.extract a b = S (((L s).drop a).take (b - a)) := by rw [← L_extract]; rfl
theorem append_S (s t : ByteArray) : s ++ t = S (L s ++ L t) := by rw [← L_append]; rfl
/-- 'string(b)'. -/
theorem run_bytes_string {P : Program} (w : World) {src dst e : TypeId} (hs : P.underlying src = some (.slice e)) (he : P.underlying e = some (.int .u8)) (hd : P.underlying dst = some .string)
    {A : Option Addr} {n c B : Nat} {l : List UInt8} (h : Rd w B 1 A n (byteCells l)) : (convert src dst (.slice A n c)).run P w = .ok (.string ⟨l.toArray⟩) w := by
  have hn : l.length = n := by have := h.1; simpa [byteCells] using this
  cases A with
  | none =>
    have h0 : n = 0 := by
      rcases Nat.eq_zero_or_pos n with h0 | h0
      · exact h0
      · obtain ⟨_, h1, _⟩ := h.2 h0; cases h1
    subst h0
    rw [List.eq_nil_of_length_eq_zero hn]
    exact run_convert_bytes_nil w src e hs he 0 c dst hd
  | some ad =>
    subst hn
    refine run_convert_bytes_back w src dst e ad c l hs he hd fun j hj => ?_
    obtain ⟨ad', h1, _, h2⟩ := h.2 (by omega)
    cases h1
    exact h2 j _ (by rw [byteCells, List.getElem?_map, List.getElem?_eq_getElem hj]; rfl)

theorem run_index_S {P : Program} {t : TypeId} (h : P.underlying t = some .string) (s : ByteArray) (i : Nat) (hi : i < s.size) (w : World) :
    (Instr.index t (.string s) (.int .i64 (i : Int))).run P w = .ok (.int .u8 (((L s).getD i 0).toNat : Int)) w := by
  rw [run_index_string w t s .i64 i h, dif_pos ⟨by omega, by omega⟩]
  have e : s[((i : Int)).toNat]'(by omega) = (L s).getD i 0 := by
    rw [List.getD_eq_getElem?_getD, List.getElem?_eq_getElem (by rw [L_len]; exact hi)]
    rfl
  rw [e]
theorem conv_new {P : Program} {src dst e : TypeId} (hs : P.underlying src = some (.slice e)) (he : P.underlying e = some (.int .u8)) (hd : P.underlying dst = some .string)
    (w : World) (cs : Array Value) (l : List UInt8) (n c : Nat) (h : cs.toList = byteCells l) (hn : l.length = n) :
    (convert src dst (.slice (some ⟨w.heap.size, 0, none⟩) n c)).run P (w.alloc (.cells cs e)) = .ok (.string (S l)) (w.alloc (.cells cs e)) :=
  run_bytes_string _ hs he hd (A := some ⟨w.heap.size, 0, none⟩) (B := w.heap.size + 1) (l := l)
    (by rw [← h]; exact Rd.new_ (size := 1) w _ _ (Nat.lt_succ_self _) (by rw [← Array.length_toList, h, byteCells, List.length_map, hn]; omega))

theorem own_below {w w' : World} {base : Nat} {e : TypeId} {size : Nat} {v : Value} {n : Nat} {xs : List Value} (h : w.ownsRow base e size v n xs) (hb : Below w.heap.size w w') : w'.ownsRow base e size v n xs :=
  h.kept (row := none) ⟨hb.os, hb.tape, hb.output, hb.size, fun k hk _ => hb.block k hk⟩ (by cases hv : v.ownBlock <;> simp)
theorem own_drewN {w : World} {base : Nat} {e : TypeId} {size : Nat} {v : Value} {n : Nat} {xs : List Value} (h : w.ownsRow base e size v n xs) (k : Nat) : (w.drewN k).ownsRow base e size v n xs := h
theorem own_lower {w : World} {base base' : Nat} {e : TypeId} {size : Nat} {v : Value} {n : Nat} {xs : List Value} (h : w.ownsRow base e size v n xs) (hb : base' ≤ base) : w.ownsRow base' e size v n xs := by
  refine ⟨h.1, ?_⟩
  rcases h.2 with h | ⟨g, cap, cur, h1, h2, h3⟩
  · exact .inl h
  · exact .inr ⟨g, cap, cur, h1, by omega, h3⟩
theorem own_form {w : World} {base : Nat} {e : TypeId} {size : Nat} {v : Value} {n : Nat} {xs : List Value} (h : w.ownsRow base e size v n xs) : ∃ A c, v = .slice A n c ∧ n ≤ c ∧ c ≤ maxLen ∧ Rd w w.heap.size size A n xs := by
  have h0 := h
  rcases h.2 with ⟨rfl, rfl⟩ | ⟨g, cap, cur, rfl, h2, h3, h4, h5, _⟩
  · have hx : xs = [] := List.eq_nil_of_length_eq_zero (by have := h.1; omega)
    subst hx
    exact ⟨none, 0, rfl, Nat.le_refl _, Nat.zero_le _, Rd.nil_⟩
  · exact ⟨_, cap, rfl, h4, h5, Rd.of_own h0⟩
/-- 'append' to a row of the call's own, its source cells at an address. -/
theorem wpList_app {P : Program} {w : World} {ops : Array Oper} {rest : List Oper} {o : Oper} {a : Act} {Q : Exit → Act → World → Prop} (hgd : o.guard = none) (s x : Operand) (t : TypeId)
    (ho : o.op = .call { callee := .builtin .append, args := #[s, x], argTypes := #[t, t] })
    (base : Nat) (e : TypeId) (i : TypeInfo) (z : Value) (size bytes : Nat) (ht : P.underlying t = some (.slice e)) (hi : P.info? e = some i) (hz : i.zero = some z)
    (hsize : i.size = size) (hby : i.bytes = bytes) (hzs : z.cells.size = size) (hsz : 0 < size)
    (v : Value) (n : Nat) (xs : List Value) (hs : a.eval s = v) (hown : w.ownsRow base e size v n xs)
    (ad : Addr) (m c : Nat) (news : List Value) (hx : a.eval x = .slice (some ad) m c) (hl : news.length = m * size) (hnews : ∀ j u, news[j]? = some u → w.cell? (ad.add j) = some u) (h1 : ∀ u ∈ news, u.oneCell' = true)
    (hbytes : (n + m) * bytes ≤ 140737488355328) (hb0 : 0 < bytes) (hbase : base ≤ w.heap.size)
    (h : ∀ v' w', w'.ownsRow base e size v' (n + m) (xs ++ news) → Below base w w' → wpList P ops Q rest (a.put o.dst v') w') : wpList P ops Q (o :: rest) a w :=
  wpList_append_own w hgd s x t ho base e i z size bytes ht hi hz hsize hby hzs hsz v n xs hs hown ad m c news hx hl hnews h1
    (by have := Nat.le_mul_of_pos_right (n + m) hb0; unfold maxLen; omega) hbytes hbase
    fun v' w' h2 h3 _ => h v' w' h2 ((Below.refl base w).grown h3 hbase (fun k hk => (hown.lt k hk).1))

theorem run_append_nil {P : Program} (w : World) {base : Nat} {t ty e : TypeId} {i : TypeInfo} {size : Nat} (ht : P.underlying t = some (.slice e)) (hi : P.info? e = some i)
    {v : Value} {n : Nat} {xs : List Value} (hown : w.ownsRow base e size v n xs) (c : Nat) : (Builtin.append_ #[t, t] ty #[v, .slice none 0 c]).run P w = .ok v w := by
  rcases hown.2 with ⟨rfl, rfl⟩ | ⟨g, cap, cur, rfl, _, _, hnc, _⟩
  · simp [Builtin.append_, run_underlying ht, sizeOf, typeInfo, hi, Builtin.lenOf, Builtin.firstCells]
  · simp [Builtin.append_, run_underlying ht, sizeOf, typeInfo, hi, Builtin.lenOf, Builtin.firstCells, hnc, storeCells]
/-- 'append(out, src...)', out the call's own, src any slice that reads. -/
theorem run_appRd {P : Program} {w : World} {base : Nat} {t ty e : TypeId} {i : TypeInfo} {z : Value} {size bytes : Nat} (ht : P.underlying t = some (.slice e)) (hi : P.info? e = some i) (hz : i.zero = some z)
    (hsize : i.size = size) (hby : i.bytes = bytes) (hzs : z.cells.size = size) (hsz : 0 < size) {v : Value} {n : Nat} {xs : List Value} (hown : w.ownsRow base e size v n xs)
    {B : Nat} {A : Option Addr} {m c : Nat} {news : List Value} (hr : Rd w B size A m news) (h1 : ∀ u ∈ news, u.oneCell' = true)
    (hbytes : (n + m) * bytes ≤ 140737488355328) (hb0 : 0 < bytes) (hbase : base ≤ w.heap.size) :
    ∃ v' w', (Builtin.append_ #[t, t] ty #[v, .slice A m c]).run P w = .ok v' w' ∧ w'.ownsRow base e size v' (n + m) (xs ++ news) ∧ Below base w w' := by
  have h63 : n + m ≤ maxLen := by have := Nat.le_mul_of_pos_right (n + m) hb0; unfold maxLen; omega
  cases A with
  | none =>
    have hm : m = 0 := by
      rcases Nat.eq_zero_or_pos m with h0 | h0
      · exact h0
      · obtain ⟨ad, h, _⟩ := hr.2 h0; cases h
    subst hm
    have hn : news = [] := List.eq_nil_of_length_eq_zero (by simpa using hr.1)
    subst hn
    exact ⟨v, w, run_append_nil w ht hi hown c, by simpa using hown, Below.refl _ _⟩
  | some ad =>
    have hcells : ∀ j u, news[j]? = some u → w.cell? (ad.add j) = some u := by
      intro j u hu
      rcases Nat.eq_zero_or_pos m with h0 | h0
      · subst h0
        have hn : news = [] := List.eq_nil_of_length_eq_zero (by simpa using hr.1)
        subst hn; simp at hu
      · obtain ⟨ad', h, _, hc⟩ := hr.2 h0
        cases h
        exact hc j u hu
    obtain ⟨v', w', hrun, h2, h3, _⟩ := run_append_own (P := P) w base t ty e i z size bytes ht hi hz hsize hby hzs hsz v n xs hown ad m c news hr.1 hcells h1 h63 hbytes hbase
    exact ⟨v', w', hrun, h2, (Below.refl base w).grown h3 hbase (fun k hk => (hown.lt k hk).1)⟩
theorem wp_appRd {P : Program} {w : World} {o : Oper} {a : Act} {K : Act → World → Prop} {Q : Exit → Act → World → Prop} (s x : Operand) (t : TypeId)
    (ho : o.op = .call { callee := .builtin .append, args := #[s, x], argTypes := #[t, t] })
    (base : Nat) (e : TypeId) (i : TypeInfo) (z : Value) (size bytes : Nat) (ht : P.underlying t = some (.slice e)) (hi : P.info? e = some i) (hz : i.zero = some z)
    (hsize : i.size = size) (hby : i.bytes = bytes) (hzs : z.cells.size = size) (hsz : 0 < size)
    (v : Value) (n : Nat) (xs : List Value) (hs : a.eval s = v) (hown : w.ownsRow base e size v n xs)
    (B : Nat) (A : Option Addr) (m c : Nat) (news : List Value) (hx : a.eval x = .slice A m c) (hr : Rd w B size A m news) (h1 : ∀ u ∈ news, u.oneCell' = true)
    (hbytes : (n + m) * bytes ≤ 140737488355328) (hb0 : 0 < bytes) (hbase : base ≤ w.heap.size)
    (h : ∀ v' w', w'.ownsRow base e size v' (n + m) (xs ++ news) → Below base w w' → K (a.put o.dst v') w') : o.wp P a w K Q := by
  obtain ⟨v', w', hrun, h2, h3⟩ := run_appRd (P := P) (ty := o.type) ht hi hz hsize hby hzs hsz hown (c := c) hr h1 hbytes hb0 hbase
  unfold Oper.wp execOp
  simp only [ho, resolve, invoke, builtin, Sem.run_bind, Sem.run_pure, Result.andThen_ok, List.map_toArray, List.map_cons, List.map_nil, hs, hx, hrun]
  exact h v' w' h2 h3
theorem wpList_appRd {P : Program} {w : World} {ops : Array Oper} {rest : List Oper} {o : Oper} {a : Act} {Q : Exit → Act → World → Prop} (hgd : o.guard = none) (s x : Operand) (t : TypeId)
    (ho : o.op = .call { callee := .builtin .append, args := #[s, x], argTypes := #[t, t] })
    (base : Nat) (e : TypeId) (i : TypeInfo) (z : Value) (size bytes : Nat) (ht : P.underlying t = some (.slice e)) (hi : P.info? e = some i) (hz : i.zero = some z)
    (hsize : i.size = size) (hby : i.bytes = bytes) (hzs : z.cells.size = size) (hsz : 0 < size)
    (v : Value) (n : Nat) (xs : List Value) (hs : a.eval s = v) (hown : w.ownsRow base e size v n xs)
    (B : Nat) (A : Option Addr) (m c : Nat) (news : List Value) (hx : a.eval x = .slice A m c) (hr : Rd w B size A m news) (h1 : ∀ u ∈ news, u.oneCell' = true)
    (hbytes : (n + m) * bytes ≤ 140737488355328) (hb0 : 0 < bytes) (hbase : base ≤ w.heap.size)
    (h : ∀ v' w', w'.ownsRow base e size v' (n + m) (xs ++ news) → Below base w w' → wpList P ops Q rest (a.put o.dst v') w') : wpList P ops Q (o :: rest) a w :=
  wpList_plain hgd fun _ hK => wp_appRd s x t ho base e i z size bytes ht hi hz hsize hby hzs hsz v n xs hs hown B A m c news hx hr h1 hbytes hb0 hbase fun v' w' h2 h3 => hK _ _ (h v' w' h2 h3)

end Go.Proofs.Ytmikckhihfcooaa
namespace Go.Proofs.Ytmikckhihfcooaa
structure Op where
  kind : Int
  pos : Int
  b : Int
deriving DecidableEq, Inhabited
def Op.cells (x : Op) : List Value := [.int .i64 x.kind, .int .i64 x.pos, .int .u8 x.b]
def Op.val (x : Op) : Value := .agg #[.int .i64 x.kind, .int .i64 x.pos, .int .u8 x.b]
def opErr (n : Int) (x : Op) : Int :=
  if n < 0 ∨ 200 < n then 1
  else if x.kind = 1 then (if x.pos < 0 ∨ n < x.pos then 1 else if n = 200 then 11 else 0)
  else if x.kind = 2 then (if x.pos < 0 ∨ n ≤ x.pos then 1 else if x.b = 0 then 0 else 3)
  else if x.kind = 3 then (if x.pos = 0 then (if x.b = 0 then 0 else 3) else 1)
  else 3
/-- x, behind y. -/
def past (x y : Op) (first : Bool) : Op :=
  if x.kind = 3 ∨ y.kind = 3 then x
  else if x.kind = 2 ∧ y.kind = 2 ∧ x.pos = y.pos then ⟨3, 0, 0⟩
  else if y.kind = 1 ∧ (y.pos < x.pos ∨ y.pos = x.pos ∧ (x.kind = 2 ∨ first = false)) then ⟨x.kind, x.pos + 1, x.b⟩
  else if y.kind = 2 ∧ y.pos < x.pos then ⟨x.kind, x.pos - 1, x.b⟩
  else x
def pastErr (n : Int) (x y : Op) : Int := if opErr n x = 0 then opErr n y else opErr n x
def pastAns (n : Int) (x y : Op) (first : Bool) : Op := if opErr n x = 0 ∧ opErr n y = 0 then past x y first else ⟨0, 0, 0⟩
end Go.Proofs.Ytmikckhihfcooaa
namespace Go.Proofs.Ytmikckhihfcooaa
open Go.RowKit
def opSz (x : Op) : Int := if x.kind = 1 then 1 else if x.kind = 2 then -1 else 0
theorem opSz_bd (x : Op) : -1 ≤ opSz x ∧ opSz x ≤ 1 := by
  unfold opSz
  by_cases h1 : x.kind = 1
  · rw [if_pos h1]; omega
  · rw [if_neg h1]
    by_cases h2 : x.kind = 2
    · rw [if_pos h2]; omega
    · rw [if_neg h2]; omega
def szs : List Op → Int
  | [] => 0
  | x :: r => opSz x + szs r
theorem szs_append (a b : List Op) : szs (a ++ b) = szs a + szs b := by
  induction a with
  | nil => simp [szs]
  | cons x a ih => simp only [List.cons_append, szs, ih]; omega
theorem szs_bd (l : List Op) : -(l.length : Int) ≤ szs l ∧ szs l ≤ l.length := by
  induction l with
  | nil => simp [szs]
  | cons x l ih => have := opSz_bd x; simp only [szs, List.length_cons]; omega
/-- May x be done at a text of n bytes (room aside)? -/
def vld (n : Int) (x : Op) : Prop := (x.kind = 1 ∧ 0 ≤ x.pos ∧ x.pos ≤ n) ∨ (x.kind = 2 ∧ 0 ≤ x.pos ∧ x.pos < n ∧ x.b = 0) ∨ (x.kind = 3 ∧ x.pos = 0 ∧ x.b = 0)
theorem vld_of_err {n : Int} {x : Op} (h : opErr n x = 0) : vld n x ∧ 0 ≤ n ∧ n ≤ 200 ∧ 0 ≤ n + opSz x ∧ n + opSz x ≤ 200 := by
  unfold opErr at h; unfold vld opSz; grind
theorem err_of_vld {n : Int} {x : Op} (h : vld n x) (h0 : 0 ≤ n) (h1 : n < 200) : opErr n x = 0 := by
  unfold vld at h; unfold opErr; grind
theorem vld_grow {n : Int} {x : Op} (h : vld n x) (h0 : 0 ≤ n) : 0 ≤ n + opSz x := by
  unfold vld at h; unfold opSz; grind
theorem vld_pos {n : Int} {x : Op} (h : vld n x) (h0 : 0 ≤ n) : 0 ≤ x.pos ∧ x.pos ≤ n ∧ (x.kind = 1 ∨ x.kind = 2 ∨ x.kind = 3) := by
  unfold vld at h; grind
theorem tp {n : Int} {x y : Op} (f : Bool) (hx : vld n x) (hy : vld n y) (_h0 : 0 ≤ n) : vld (n + opSz y) (past x y f) ∧ vld (n + opSz x) (past y x (!f)) ∧ opSz x + opSz (past y x (!f)) = opSz y + opSz (past x y f) := by
  obtain ⟨xk, xp, xb⟩ := x
  obtain ⟨yk, yp, yb⟩ := y
  simp only [vld] at hx hy
  rcases hx with ⟨rfl, x1, x2⟩ | ⟨rfl, x1, x2, x3⟩ | ⟨rfl, x1, x3⟩ <;> rcases hy with ⟨rfl, y1, y2⟩ | ⟨rfl, y1, y2, y3⟩ | ⟨rfl, y1, y3⟩
  all_goals
    rcases Int.lt_trichotomy xp yp with hl | hl | hl
  all_goals
    have e1 : (yp < xp) ↔ ¬ (xp ≤ yp) := by omega
    have e3 : (yp = xp) ↔ (xp = yp) := eq_comm
    cases f <;> simp only [past, opSz, vld, Bool.not_true, Bool.not_false, e3] <;> simp <;> grind
/-- A row of operations, each behind those ahead of it. -/
def okL (n : Int) : List Op → Prop
  | [] => True
  | x :: r => vld n x ∧ okL (n + opSz x) r
theorem okL_drop {n : Int} {l : List Op} (h : okL n l) : ∀ k, okL (n + szs (l.take k)) (l.drop k) := by
  induction l generalizing n with
  | nil => intro k; simp [okL]
  | cons x l ih =>
    intro k
    cases k with
    | zero => simpa [szs] using h
    | succ k =>
      have := ih h.2 k
      simp only [List.take_succ_cons, List.drop_succ_cons, szs]
      rw [show n + (opSz x + szs (l.take k)) = n + opSz x + szs (l.take k) by omega]
      exact this
theorem okL_at {n : Int} {l : List Op} (h : okL n l) {k : Nat} (hk : k < l.length) : vld (n + szs (l.take k)) l[k] := by
  have := okL_drop h k
  rw [List.drop_eq_getElem_cons hk] at this
  exact this.1
theorem okL_pos {n : Int} {l : List Op} (h : okL n l) (h0 : 0 ≤ n) : ∀ k, 0 ≤ n + szs (l.take k) := by
  induction l generalizing n with
  | nil => intro k; simpa [szs] using h0
  | cons x l ih =>
    intro k
    cases k with
    | zero => simpa [szs] using h0
    | succ k =>
      have := ih h.2 (vld_grow h.1 h0) k
      simp only [List.take_succ_cons, szs]; omega
/-- x past a row; the row past x. -/
def rowX (f : Bool) (x : Op) : List Op → Op
  | [] => x
  | y :: r => rowX f (past x y f) r
def rowL (f : Bool) (x : Op) : List Op → List Op
  | [] => []
  | y :: r => past y x (!f) :: rowL f (past x y f) r
theorem rowL_length (f : Bool) (l : List Op) : ∀ x, (rowL f x l).length = l.length := by
  induction l with
  | nil => intro x; rfl
  | cons y l ih => intro x; simp [rowL, ih]
theorem rowX_snoc (f : Bool) (l : List Op) (y : Op) : ∀ x, rowX f x (l ++ [y]) = past (rowX f x l) y f := by
  induction l with
  | nil => intro x; rfl
  | cons z l ih => intro x; simp only [List.cons_append, rowX]; exact ih _
theorem rowL_snoc (f : Bool) (l : List Op) (y : Op) : ∀ x, rowL f x (l ++ [y]) = rowL f x l ++ [past y (rowX f x l) (!f)] := by
  induction l with
  | nil => intro x; rfl
  | cons z l ih => intro x; simp only [List.cons_append, rowL, rowX]; rw [ih]
theorem row_ok (f : Bool) {n : Int} {l : List Op} (h : okL n l) (h0 : 0 ≤ n) : ∀ {x : Op}, vld n x → okL (n + opSz x) (rowL f x l) ∧ (∀ k, k ≤ l.length → vld (n + szs (l.take k)) (rowX f x (l.take k))) := by
  induction l generalizing n with
  | nil =>
    intro x hx
    refine ⟨trivial, fun k hk => ?_⟩
    obtain rfl : k = 0 := by simpa using hk
    simpa [szs, rowX] using hx
  | cons y l ih =>
    intro x hx
    obtain ⟨t1, t2, t3⟩ := tp f hx h.1 h0
    obtain ⟨i1, i2⟩ := ih h.2 (vld_grow h.1 h0) t1
    refine ⟨⟨t2, ?_⟩, fun k hk => ?_⟩
    · rw [show n + opSz x + opSz (past y x (!f)) = n + opSz y + opSz (past x y f) by omega]; exact i1
    · cases k with
      | zero => simpa [szs, rowX] using hx
      | succ k =>
        have := i2 k (by simpa using hk)
        simp only [List.take_succ_cons, szs, rowX]
        rw [show n + (opSz y + szs (l.take k)) = n + opSz y + szs (l.take k) by omega]
        exact this
/-- All of a past l, one by one: what becomes of them, and of l. -/
def runO (f : Bool) : List Op → List Op → List Op
  | [], _ => []
  | x :: a, l => rowX f x l :: runO f a (rowL f x l)
def runL (f : Bool) : List Op → List Op → List Op
  | [], l => l
  | x :: a, l => runL f a (rowL f x l)
theorem runL_length (f : Bool) (a : List Op) : ∀ l, (runL f a l).length = l.length := by
  induction a with
  | nil => intro l; rfl
  | cons x a ih => intro l; rw [runL, ih, rowL_length]
theorem runO_length (f : Bool) (a : List Op) : ∀ l, (runO f a l).length = a.length := by
  induction a with
  | nil => intro l; rfl
  | cons x a ih => intro l; simp [runO, ih]
theorem runL_snoc (f : Bool) (a : List Op) (x : Op) : ∀ l, runL f (a ++ [x]) l = rowL f x (runL f a l) := by
  induction a with
  | nil => intro l; rfl
  | cons y a ih => intro l; simp only [List.cons_append, runL]; exact ih _
theorem runO_snoc (f : Bool) (a : List Op) (x : Op) : ∀ l, runO f (a ++ [x]) l = runO f a l ++ [rowX f x (runL f a l)] := by
  induction a with
  | nil => intro l; rfl
  | cons y a ih => intro l; simp only [List.cons_append, runO, runL]; rw [ih]
theorem run_cons (f : Bool) (a : List Op) (b : List Op) : ∀ x, runO f b (x :: a) = runO f (rowL (!f) x b) a ∧ runL f b (x :: a) = rowX (!f) x b :: runL f (rowL (!f) x b) a := by
  induction b generalizing a with
  | nil => intro x; exact ⟨rfl, rfl⟩
  | cons y b ih =>
    intro x
    simp only [runO, runL, rowX, rowL, Bool.not_not]
    obtain ⟨h1, h2⟩ := ih (rowL f (past y x f) a) (past x y (!f))
    rw [h1, h2]
    exact ⟨rfl, rfl⟩
/-- It is the same, whichever goes first. -/
theorem run_swap (f : Bool) (a : List Op) : ∀ b, runO (!f) b a = runL f a b ∧ runL (!f) b a = runO f a b := by
  induction a with
  | nil =>
    intro b
    constructor
    · rw [runL]
      induction b with
      | nil => rfl
      | cons y b ih => simp only [runO, rowX, rowL]; rw [ih]
    · rw [runO]
      induction b with
      | nil => rfl
      | cons y b ih => simp only [runL, rowL]; exact ih
  | cons x a ih =>
    intro b
    obtain ⟨h1, h2⟩ := run_cons (!f) a b x
    rw [Bool.not_not] at h1 h2
    rw [h1, h2, runL, runO]
    exact ⟨(ih _).1, by rw [(ih _).2]⟩
theorem run_ok (f : Bool) {a : List Op} : ∀ {n : Int} {l : List Op}, okL n a → okL n l → 0 ≤ n → ∀ k, k ≤ a.length → okL (n + szs (a.take k)) (runL f (a.take k) l) := by
  induction a with
  | nil => intro n l _ hl _ k _; simpa [szs, runL] using hl
  | cons x a ih =>
    intro n l ha hl h0 k hk
    cases k with
    | zero => simpa [szs, runL] using hl
    | succ k =>
      have := ih ha.2 (row_ok f hl h0 ha.1).1 (vld_grow ha.1 h0) k (by simpa using hk)
      simp only [List.take_succ_cons, szs, runL]
      rw [show n + (opSz x + szs (a.take k)) = n + opSz x + szs (a.take k) by omega]
      exact this
/-- What is asked of one of the two rows. -/
def chk (la lb : Int) (m : Int) : List Op → Int
  | [] => if 200 < wrap64 (wrap64 (m + la) + lb) then 11 else 0
  | x :: r => if opErr m x = 0 then chk la lb (m + opSz x) r else opErr m x
def allErr (n : Int) (a b : List Op) : Int :=
  if 30 < a.length ∨ 30 < b.length then 2 else if chk a.length b.length n a = 0 then chk a.length b.length n b else chk a.length b.length n a
theorem chk_step {la lb m : Int} {l : List Op} {k : Nat} (hk : k < l.length) (h : opErr (m + szs (l.take k)) l[k] = 0) : chk la lb (m + szs (l.take k)) (l.drop k) = chk la lb (m + szs (l.take (k + 1))) (l.drop (k + 1)) ∧ m + szs (l.take (k + 1)) = m + szs (l.take k) + opSz l[k] := by
  rw [List.drop_eq_getElem_cons hk, chk, if_pos h, List.take_succ_eq_append_getElem hk, szs_append]
  simp only [szs, Int.add_zero]
  rw [show m + (szs (l.take k) + opSz l[k]) = m + szs (l.take k) + opSz l[k] by omega]
  exact ⟨rfl, rfl⟩
theorem chk_bad {la lb m : Int} {l : List Op} {k : Nat} (hk : k < l.length) (h : opErr (m + szs (l.take k)) l[k] ≠ 0) : chk la lb (m + szs (l.take k)) (l.drop k) = opErr (m + szs (l.take k)) l[k] := by
  rw [List.drop_eq_getElem_cons hk, chk, if_neg h]
theorem chk_end {la lb m : Int} {l : List Op} : chk la lb (m + szs (l.take l.length)) (l.drop l.length) = if 200 < wrap64 (wrap64 (m + szs l + la) + lb) then 11 else 0 := by
  rw [List.drop_length, List.take_length, chk]
theorem chk_ok {la lb : Int} {l : List Op} : ∀ {m : Int}, chk la lb m l = 0 → okL m l ∧ ¬ 200 < wrap64 (wrap64 (m + szs l + la) + lb) ∧ (0 < l.length → 0 ≤ m ∧ 0 ≤ m + szs l ∧ m + szs l ≤ 200) := by
  induction l with
  | nil =>
    intro m h
    rw [chk] at h
    refine ⟨trivial, fun h2 => ?_, fun h => absurd h (by simp)⟩
    simp only [szs, Int.add_zero] at h2
    rw [if_pos h2] at h; omega
  | cons x l ih =>
    intro m h
    rw [chk] at h
    by_cases hx : opErr m x = 0
    · rw [if_pos hx] at h
      obtain ⟨h1, h2, h3⟩ := ih h
      obtain ⟨v1, v2, v3, v4, v5⟩ := vld_of_err hx
      simp only [szs]
      rw [← Int.add_assoc]
      refine ⟨⟨v1, h1⟩, h2, fun _ => ⟨v2, ?_⟩⟩
      cases l with
      | nil => simp only [szs]; omega
      | cons y l => have := h3 (by simp); omega
    · rw [if_neg hx] at h; exact absurd h hx
/-- Where there is something to do: both rows may be done, and there is room. -/
structure AllOk (n : Int) (a b : List Op) : Prop where
  n0 : 0 ≤ n
  oa : okL n a
  ob : okL n b
  ra : ∀ k, k ≤ a.length → n + szs (a.take k) + b.length ≤ 200
  rb : ∀ k, k ≤ b.length → n + szs (b.take k) + a.length ≤ 200
theorem wrap_room {x la lb : Int} (h0 : 0 ≤ x) (h1 : x ≤ 200) (ha : 0 ≤ la) (ha' : la ≤ 30) (hb : 0 ≤ lb) (hb' : lb ≤ 30) (h : ¬ 200 < wrap64 (wrap64 (x + la) + lb)) : x + la + lb ≤ 200 := by
  rw [IntWalk.wrap64_in (x + la) ⟨by omega, by omega⟩, IntWalk.wrap64_in _ ⟨by omega, by omega⟩] at h
  omega
theorem room {n : Int} {a : List Op} {lb : Int} (h : n + szs a + a.length + lb ≤ 200) (k : Nat) (_hk : k ≤ a.length) : n + szs (a.take k) + lb ≤ 200 := by
  have e : szs a = szs (a.take k) + szs (a.drop k) := by rw [← szs_append, List.take_append_drop]
  have := (szs_bd (a.drop k)).1
  rw [List.length_drop] at this
  omega
theorem allOk {n : Int} {a b : List Op} (h : allErr n a b = 0) (ha : 0 < a.length) (hb : 0 < b.length) : AllOk n a b ∧ a.length ≤ 30 ∧ b.length ≤ 30 := by
  unfold allErr at h
  by_cases h3 : 30 < a.length ∨ 30 < b.length
  · rw [if_pos h3] at h; omega
  · rw [if_neg h3] at h
    by_cases hc : chk a.length b.length n a = 0
    · rw [if_pos hc] at h
      obtain ⟨a1, a2, a3⟩ := chk_ok hc
      obtain ⟨b1, b2, b3⟩ := chk_ok h
      obtain ⟨a4, a5, a6⟩ := a3 ha
      obtain ⟨b4, b5, b6⟩ := b3 hb
      have r1 := wrap_room a5 a6 (by omega) (by omega) (by omega) (by omega) a2
      have r2 := wrap_room b5 b6 (by omega) (by omega) (by omega) (by omega) b2
      exact ⟨⟨a4, a1, b1, fun k hk => room (by omega) k hk, fun k hk => room (by omega) k hk⟩, by omega, by omega⟩
    · rw [if_neg hc] at h; exact absurd h hc
end Go.Proofs.Ytmikckhihfcooaa
