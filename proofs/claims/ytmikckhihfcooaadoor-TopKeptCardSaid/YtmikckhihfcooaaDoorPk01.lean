/- Words for memory that all walks of this seat share: a slice that reads as a list of cells; small facts on worlds. No premise beyond each lemma's own. Scripts of edits, their errors, and what they make of a text. No program in sight. The edits back; where a place comes to lie. No program in sight. -/
import Derived.Test.YtmikckhihfcooaaDoorRows
import Derived.WalkKit
import Derived.WalkSpells
import Derived.WalkLawsBesides
import Derived.Deep.QuietTactic
import Derived.BigQuiet
import Derived.Deep.Draws
import Derived.Deep.AppendLies
import Derived.Lib.Hide
import Derived.Deep.Light
import Derived.Lib.QuietBelow
import Derived.Deep.RegionWith
import Derived.Deep.RegionLaw
import Derived.Deep.DeepCutAuto
import Derived.Lib.ConvBytes
import Derived.Laws.BytesArg
import Derived.Laws.IdiomStrings
namespace Go.Proofs.YtmikckhihfcooaaDoor
open Go.RowKit

theorem blk_add (a : Addr) (n : Nat) : (a.add n).block = a.block := by unfold Addr.add; split <;> rfl
theorem add_add (a : Addr) (i j : Nat) : (a.add i).add j = a.add (i + j) := by
  unfold Addr.add
  by_cases hi : i = 0 <;> by_cases hj : j = 0 <;> simp [hi, hj, Nat.add_assoc]

/-- The slice value `.slice A n c` of elements of `size` cells reads as the cells `xs`; it lies below block `B`. -/
def Rd (w : World) (B size : Nat) (A : Option Addr) (n : Nat) (xs : List Value) : Prop :=
  xs.length = n * size ∧ (0 < n → ∃ ad, A = some ad ∧ ad.block < B ∧ ∀ j u, xs[j]? = some u → w.cell? (ad.add j) = some u)

section
variable {w w' : World} {B B' size n : Nat} {A : Option Addr} {xs : List Value}
theorem Rd.nil_ : Rd w B size A 0 [] := ⟨by simp, fun h => absurd h (by omega)⟩
theorem Rd.at_ {k : Nat} (h : Rd w B 1 A n xs) (hk : k < n) : ∃ ad u, A = some ad ∧ ad.block < B ∧ xs[k]? = some u ∧ w.cell? (ad.add k) = some u := by
  obtain ⟨ad, e, hb, hc⟩ := h.2 (by omega)
  have hl : k < xs.length := by have := h.1; omega
  exact ⟨ad, xs[k], e, hb, List.getElem?_eq_getElem hl, hc k _ (List.getElem?_eq_getElem hl)⟩
theorem Rd.keep (h : Rd w B size A n xs) (hk : ∀ p : Addr, p.block < B → w'.cell? p = w.cell? p) : Rd w' B size A n xs :=
  ⟨h.1, fun hn => by
    obtain ⟨ad, e, hb, hc⟩ := h.2 hn
    exact ⟨ad, e, hb, fun j u hu => (hk _ (by rw [blk_add]; exact hb)).trans (hc j u hu)⟩⟩
theorem Rd.more (h : Rd w B size A n xs) (hB : B ≤ B') : Rd w B' size A n xs :=
  ⟨h.1, fun hn => by
    obtain ⟨ad, e, hb, hc⟩ := h.2 hn
    exact ⟨ad, e, by omega, hc⟩⟩
theorem Rd.below (h : Rd w B size A n xs) (hb : Below B w w') : Rd w' B size A n xs := h.keep fun _ hp => hb.cell hp
theorem Rd.drew (h : Rd w B size A n xs) : Rd w.drew B size A n xs := h
theorem Rd.drewN (h : Rd w B size A n xs) (k : Nat) : Rd (w.drewN k) B size A n xs := h
theorem Rd.alloc (h : Rd w B size A n xs) (hB : B ≤ w.heap.size) (o : Obj) : Rd (w.alloc o) B size A n xs := h.keep fun p hp => World.cell?_alloc_lt w o p (by omega)
theorem Rd.of_own {base : Nat} {e : TypeId} {c : Nat} (h : w.ownsRow base e size (.slice A n c) n xs) : Rd w w.heap.size size A n xs := by
  refine ⟨h.1, fun hn => ?_⟩
  obtain ⟨g, cap, hv, _, hlt⟩ := h.form hn
  have hA : A = some ⟨g, 0, none⟩ := by injection hv
  subst hA
  exact ⟨_, rfl, hlt, h.cells (g := g) rfl⟩
end

theorem cell_row (w : World) (g i : Nat) (cs : Array Value) (t : TypeId) (hg : w.heap[g]? = some (.cells cs t (0, 0))) : w.cell? ((⟨g, 0, none⟩ : Addr).add i) = cs[i]? := by
  have hadd : (⟨g, 0, none⟩ : Addr).add i = ⟨g, i, none⟩ := by unfold Addr.add; split <;> simp_all
  rw [hadd, cell_of_row w g i cs t (0, 0) hg]
/-- A block that reads whole is a slice that reads. -/
theorem Rd.of_heap {w : World} {g : Nat} {cs : Array Value} {t : TypeId} {B size n : Nat} (hg : w.heap[g]? = some (.cells cs t (0, 0))) (hB : g < B) (hn : cs.size = n * size) :
    Rd w B size (some ⟨g, 0, none⟩) n cs.toList :=
  ⟨by simpa using hn, fun _ => ⟨_, rfl, hB, fun j u hu => by rw [cell_row w g j cs t hg]; simpa using hu⟩⟩
theorem Rd.new_ (w : World) (cs : Array Value) (t : TypeId) {B size n : Nat} (hB : w.heap.size < B) (hn : cs.size = n * size) :
    Rd (w.alloc (.cells cs t)) B size (some ⟨w.heap.size, 0, none⟩) n cs.toList :=
  Rd.of_heap (heap_alloc_new w _) hB hn

theorem ret_int {k : IntKind} {a b : Int} (h : a = b) : Ending.returned (.int k a) = .returned (.int k b) := by rw [h]
theorem ret_bool {a b : Bool} (h : a = b) : Ending.returned (.bool a) = .returned (.bool b) := by rw [h]
theorem bcell {w w1 : World} (hb : Below w.heap.size w w1) : (∀ b o, b < w.heap.size → w1.cell? ⟨b, o, none⟩ = w.cell? ⟨b, o, none⟩) ∧ (∀ b o, b < w.heap.size → w1.frozen? ⟨b, o, none⟩ = w.frozen? ⟨b, o, none⟩) :=
  ⟨fun b o h => hb.cell (p := ⟨b, o, none⟩) h, fun b o h => hb.frozen (p := ⟨b, o, none⟩) h⟩

theorem blen (s : ByteArray) : s.data.toList.length = s.size := by rw [Array.length_toList]; rfl
/-- Bytes as cells. -/
def byteCells (l : List UInt8) : List Value := l.map fun b => .int .u8 (b.toNat : Int)
theorem bytesWorld_below (w : World) (e : TypeId) (s : ByteArray) : Below w.heap.size w (Lib.bytesWorld w e s) :=
  ⟨rfl, rfl, rfl, by rw [Lib.bytesWorld_size]; omega, fun k hk => Lib.bytesWorld_at_old w e s k hk⟩
theorem bytesWorld_rd (w : World) (e : TypeId) (s : ByteArray) {B : Nat} (hB : w.heap.size < B) : Rd (Lib.bytesWorld w e s) B 1 (some ⟨w.heap.size, 0, none⟩) s.size (byteCells s.data.toList) := by
  refine ⟨by rw [byteCells, List.length_map, blen]; omega, fun _ => ⟨_, rfl, hB, fun j u hu => ?_⟩⟩
  have hj : j < s.data.toList.length := by
    have := (List.getElem?_eq_some_iff.1 hu).1
    simpa [byteCells] using this
  have hadd : (⟨w.heap.size, 0, none⟩ : Addr).add j = ⟨w.heap.size, j, none⟩ := by unfold Addr.add; split <;> simp_all
  rw [hadd, Lib.bytesWorld_cell w e s j (by rw [blen] at hj; exact hj), ← hu, byteCells, List.getElem?_map, List.getD_eq_getElem?_getD, List.getElem?_eq_getElem hj]
  rfl

theorem below_of_regrown {w w' : World} (h : ∃ p : Regrown, w' = Go.Sort.grow (redrawn w p.d) p.os) : Below w.heap.size w w' := by
  obtain ⟨p, rfl⟩ := h
  exact below_regrown w p.d p.os
theorem drew_cell (w : World) (a : Addr) : w.drew.cell? a = w.cell? a := rfl
theorem bthen {w w2 w3 : World} (h : Below w.heap.size w w2) (k : Below w2.heap.size w2 w3) : Below w.heap.size w w3 := h.trans (k.mono h.size)
theorem beqB (x y : ByteArray) : (x.toList == y.toList) = decide (x = y) := by
  rw [ByteArray.toList_eq, ByteArray.toList_eq, Bool.eq_iff_iff, beq_iff_eq, decide_eq_true_iff]
  constructor
  · intro h
    cases x; cases y
    simp only [ByteArray.mk.injEq]
    exact Array.toList_inj.1 h
  · rintro rfl; rfl
/-- The string of these bytes. -/
def S (l : List UInt8) : ByteArray := ⟨l.toArray⟩
/-- The bytes of a string. -/
def L (s : ByteArray) : List UInt8 := s.data.toList
theorem L_S (l : List UInt8) : L (S l) = l := rfl
theorem S_L (s : ByteArray) : S (L s) = s := rfl
theorem L_len (s : ByteArray) : (L s).length = s.size := blen s
theorem L_inj {a b : ByteArray} (h : L a = L b) : a = b := by have := congrArg S h; exact this
theorem L_append (s t : ByteArray) : L (s ++ t) = L s ++ L t := by simp [L]
theorem L_extract (s : ByteArray) (a b : Nat) : L (s.extract a b) = ((L s).drop a).take (b - a) := by simp [L, ByteArray.data_extract, Array.toList_extract, List.extract_eq_take_drop]
theorem L_empty : L ByteArray.empty = [] := rfl
theorem S_data (l : List UInt8) : (S l).data.toList = l := rfl
theorem S_of (s : ByteArray) : S s.data.toList = s := rfl
theorem S_size (l : List UInt8) : (S l).size = l.length := by rw [← blen]; rfl
theorem S_inj {a b : List UInt8} (h : S a = S b) : a = b := by have := congrArg (fun s => s.data.toList) h; exact this
theorem extract_S (s : ByteArray) (a b : Nat) : s.extract a b = S (((L s).drop a).take (b - a)) := by rw [← L_extract]; rfl
theorem append_S (s t : ByteArray) : s ++ t = S (L s ++ L t) := by rw [← L_append]; rfl
/-- 'string(b)'. -/
theorem run_bytes_string {P : Program} (w : World) {src dst e : TypeId} (hs : P.underlying src = some (.slice e)) (he : P.underlying e = some (.int .u8)) (hd : P.underlying dst = some .string)
    {A : Option Addr} {n c B : Nat} {l : List UInt8} (h : Rd w B 1 A n (byteCells l)) : (convert src dst (.slice A n c)).run P w = .ok (.string ⟨l.toArray⟩) w := by
  have hn : l.length = n := by have := h.1; simpa [byteCells] using this
  cases A with
  | none =>
    have h0 : n = 0 := by
      rcases Nat.eq_zero_or_pos n with h0 | h0
      · exact h0
      · obtain ⟨_, h1, _⟩ := h.2 h0; cases h1
    subst h0
    rw [List.eq_nil_of_length_eq_zero hn]
    exact run_convert_bytes_nil w src e hs he 0 c dst hd
  | some ad =>
    subst hn
    refine run_convert_bytes_back w src dst e ad c l hs he hd fun j hj => ?_
    obtain ⟨ad', h1, _, h2⟩ := h.2 (by omega)
    cases h1
    exact h2 j _ (by rw [byteCells, List.getElem?_map, List.getElem?_eq_getElem hj]; rfl)

theorem run_index_S {P : Program} {t : TypeId} (h : P.underlying t = some .string) (s : ByteArray) (i : Nat) (hi : i < s.size) (w : World) :
    (Instr.index t (.string s) (.int .i64 (i : Int))).run P w = .ok (.int .u8 (((L s).getD i 0).toNat : Int)) w := by
  rw [run_index_string w t s .i64 i h, dif_pos ⟨by omega, by omega⟩]
  have e : s[((i : Int)).toNat]'(by omega) = (L s).getD i 0 := by
    rw [List.getD_eq_getElem?_getD, List.getElem?_eq_getElem (by rw [L_len]; exact hi)]
    rfl
  rw [e]
theorem conv_new {P : Program} {src dst e : TypeId} (hs : P.underlying src = some (.slice e)) (he : P.underlying e = some (.int .u8)) (hd : P.underlying dst = some .string)
    (w : World) (cs : Array Value) (l : List UInt8) (n c : Nat) (h : cs.toList = byteCells l) (hn : l.length = n) :
    (convert src dst (.slice (some ⟨w.heap.size, 0, none⟩) n c)).run P (w.alloc (.cells cs e)) = .ok (.string (S l)) (w.alloc (.cells cs e)) :=
  run_bytes_string _ hs he hd (A := some ⟨w.heap.size, 0, none⟩) (B := w.heap.size + 1) (l := l)
    (by rw [← h]; exact Rd.new_ (size := 1) w _ _ (Nat.lt_succ_self _) (by rw [← Array.length_toList, h, byteCells, List.length_map, hn]; omega))

theorem own_below {w w' : World} {base : Nat} {e : TypeId} {size : Nat} {v : Value} {n : Nat} {xs : List Value} (h : w.ownsRow base e size v n xs) (hb : Below w.heap.size w w') : w'.ownsRow base e size v n xs :=
  h.kept (row := none) ⟨hb.os, hb.tape, hb.output, hb.size, fun k hk _ => hb.block k hk⟩ (by cases hv : v.ownBlock <;> simp)
theorem own_drewN {w : World} {base : Nat} {e : TypeId} {size : Nat} {v : Value} {n : Nat} {xs : List Value} (h : w.ownsRow base e size v n xs) (k : Nat) : (w.drewN k).ownsRow base e size v n xs := h
theorem own_lower {w : World} {base base' : Nat} {e : TypeId} {size : Nat} {v : Value} {n : Nat} {xs : List Value} (h : w.ownsRow base e size v n xs) (hb : base' ≤ base) : w.ownsRow base' e size v n xs := by
  refine ⟨h.1, ?_⟩
  rcases h.2 with h | ⟨g, cap, cur, h1, h2, h3⟩
  · exact .inl h
  · exact .inr ⟨g, cap, cur, h1, by omega, h3⟩
theorem own_form {w : World} {base : Nat} {e : TypeId} {size : Nat} {v : Value} {n : Nat} {xs : List Value} (h : w.ownsRow base e size v n xs) : ∃ A c, v = .slice A n c ∧ n ≤ c ∧ c ≤ maxLen ∧ Rd w w.heap.size size A n xs := by
  have h0 := h
  rcases h.2 with ⟨rfl, rfl⟩ | ⟨g, cap, cur, rfl, h2, h3, h4, h5, _⟩
  · have hx : xs = [] := List.eq_nil_of_length_eq_zero (by have := h.1; omega)
    subst hx
    exact ⟨none, 0, rfl, Nat.le_refl _, Nat.zero_le _, Rd.nil_⟩
  · exact ⟨_, cap, rfl, h4, h5, Rd.of_own h0⟩
/-- 'append' to a row of the call's own, its source cells at an address. -/
theorem wpList_app {P : Program} {w : World} {ops : Array Oper} {rest : List Oper} {o : Oper} {a : Act} {Q : Exit → Act → World → Prop} (hgd : o.guard = none) (s x : Operand) (t : TypeId)
    (ho : o.op = .call { callee := .builtin .append, args := #[s, x], argTypes := #[t, t] })
    (base : Nat) (e : TypeId) (i : TypeInfo) (z : Value) (size bytes : Nat) (ht : P.underlying t = some (.slice e)) (hi : P.info? e = some i) (hz : i.zero = some z)
    (hsize : i.size = size) (hby : i.bytes = bytes) (hzs : z.cells.size = size) (hsz : 0 < size)
    (v : Value) (n : Nat) (xs : List Value) (hs : a.eval s = v) (hown : w.ownsRow base e size v n xs)
    (ad : Addr) (m c : Nat) (news : List Value) (hx : a.eval x = .slice (some ad) m c) (hl : news.length = m * size) (hnews : ∀ j u, news[j]? = some u → w.cell? (ad.add j) = some u) (h1 : ∀ u ∈ news, u.oneCell' = true)
    (hbytes : (n + m) * bytes ≤ 140737488355328) (hb0 : 0 < bytes) (hbase : base ≤ w.heap.size)
    (h : ∀ v' w', w'.ownsRow base e size v' (n + m) (xs ++ news) → Below base w w' → wpList P ops Q rest (a.put o.dst v') w') : wpList P ops Q (o :: rest) a w :=
  wpList_append_own w hgd s x t ho base e i z size bytes ht hi hz hsize hby hzs hsz v n xs hs hown ad m c news hx hl hnews h1
    (by have := Nat.le_mul_of_pos_right (n + m) hb0; unfold maxLen; omega) hbytes hbase
    fun v' w' h2 h3 _ => h v' w' h2 ((Below.refl base w).grown h3 hbase (fun k hk => (hown.lt k hk).1))

theorem run_append_nil {P : Program} (w : World) {base : Nat} {t ty e : TypeId} {i : TypeInfo} {size : Nat} (ht : P.underlying t = some (.slice e)) (hi : P.info? e = some i)
    {v : Value} {n : Nat} {xs : List Value} (hown : w.ownsRow base e size v n xs) (c : Nat) : (Builtin.append_ #[t, t] ty #[v, .slice none 0 c]).run P w = .ok v w := by
  rcases hown.2 with ⟨rfl, rfl⟩ | ⟨g, cap, cur, rfl, _, _, hnc, _⟩
  · simp [Builtin.append_, run_underlying ht, sizeOf, typeInfo, hi, Builtin.lenOf, Builtin.firstCells]
  · simp [Builtin.append_, run_underlying ht, sizeOf, typeInfo, hi, Builtin.lenOf, Builtin.firstCells, hnc, storeCells]
/-- 'append(out, src...)', out the call's own, src any slice that reads. -/
theorem run_appRd {P : Program} {w : World} {base : Nat} {t ty e : TypeId} {i : TypeInfo} {z : Value} {size bytes : Nat} (ht : P.underlying t = some (.slice e)) (hi : P.info? e = some i) (hz : i.zero = some z)
    (hsize : i.size = size) (hby : i.bytes = bytes) (hzs : z.cells.size = size) (hsz : 0 < size) {v : Value} {n : Nat} {xs : List Value} (hown : w.ownsRow base e size v n xs)
    {B : Nat} {A : Option Addr} {m c : Nat} {news : List Value} (hr : Rd w B size A m news) (h1 : ∀ u ∈ news, u.oneCell' = true)
    (hbytes : (n + m) * bytes ≤ 140737488355328) (hb0 : 0 < bytes) (hbase : base ≤ w.heap.size) :
    ∃ v' w', (Builtin.append_ #[t, t] ty #[v, .slice A m c]).run P w = .ok v' w' ∧ w'.ownsRow base e size v' (n + m) (xs ++ news) ∧ Below base w w' := by
  have h63 : n + m ≤ maxLen := by have := Nat.le_mul_of_pos_right (n + m) hb0; unfold maxLen; omega
  cases A with
  | none =>
    have hm : m = 0 := by
      rcases Nat.eq_zero_or_pos m with h0 | h0
      · exact h0
      · obtain ⟨ad, h, _⟩ := hr.2 h0; cases h
    subst hm
    have hn : news = [] := List.eq_nil_of_length_eq_zero (by simpa using hr.1)
    subst hn
    exact ⟨v, w, run_append_nil w ht hi hown c, by simpa using hown, Below.refl _ _⟩
  | some ad =>
    have hcells : ∀ j u, news[j]? = some u → w.cell? (ad.add j) = some u := by
      intro j u hu
      rcases Nat.eq_zero_or_pos m with h0 | h0
      · subst h0
        have hn : news = [] := List.eq_nil_of_length_eq_zero (by simpa using hr.1)
        subst hn; simp at hu
      · obtain ⟨ad', h, _, hc⟩ := hr.2 h0
        cases h
        exact hc j u hu
    obtain ⟨v', w', hrun, h2, h3, _⟩ := run_append_own (P := P) w base t ty e i z size bytes ht hi hz hsize hby hzs hsz v n xs hown ad m c news hr.1 hcells h1 h63 hbytes hbase
    exact ⟨v', w', hrun, h2, (Below.refl base w).grown h3 hbase (fun k hk => (hown.lt k hk).1)⟩
theorem wp_appRd {P : Program} {w : World} {o : Oper} {a : Act} {K : Act → World → Prop} {Q : Exit → Act → World → Prop} (s x : Operand) (t : TypeId)
    (ho : o.op = .call { callee := .builtin .append, args := #[s, x], argTypes := #[t, t] })
    (base : Nat) (e : TypeId) (i : TypeInfo) (z : Value) (size bytes : Nat) (ht : P.underlying t = some (.slice e)) (hi : P.info? e = some i) (hz : i.zero = some z)
    (hsize : i.size = size) (hby : i.bytes = bytes) (hzs : z.cells.size = size) (hsz : 0 < size)
    (v : Value) (n : Nat) (xs : List Value) (hs : a.eval s = v) (hown : w.ownsRow base e size v n xs)
    (B : Nat) (A : Option Addr) (m c : Nat) (news : List Value) (hx : a.eval x = .slice A m c) (hr : Rd w B size A m news) (h1 : ∀ u ∈ news, u.oneCell' = true)
    (hbytes : (n + m) * bytes ≤ 140737488355328) (hb0 : 0 < bytes) (hbase : base ≤ w.heap.size)
    (h : ∀ v' w', w'.ownsRow base e size v' (n + m) (xs ++ news) → Below base w w' → K (a.put o.dst v') w') : o.wp P a w K Q := by
  obtain ⟨v', w', hrun, h2, h3⟩ := run_appRd (P := P) (ty := o.type) ht hi hz hsize hby hzs hsz hown (c := c) hr h1 hbytes hb0 hbase
  unfold Oper.wp execOp
  simp only [ho, resolve, invoke, builtin, Sem.run_bind, Sem.run_pure, Result.andThen_ok, List.map_toArray, List.map_cons, List.map_nil, hs, hx, hrun]
  exact h v' w' h2 h3
theorem wpList_appRd {P : Program} {w : World} {ops : Array Oper} {rest : List Oper} {o : Oper} {a : Act} {Q : Exit → Act → World → Prop} (hgd : o.guard = none) (s x : Operand) (t : TypeId)
    (ho : o.op = .call { callee := .builtin .append, args := #[s, x], argTypes := #[t, t] })
    (base : Nat) (e : TypeId) (i : TypeInfo) (z : Value) (size bytes : Nat) (ht : P.underlying t = some (.slice e)) (hi : P.info? e = some i) (hz : i.zero = some z)
    (hsize : i.size = size) (hby : i.bytes = bytes) (hzs : z.cells.size = size) (hsz : 0 < size)
    (v : Value) (n : Nat) (xs : List Value) (hs : a.eval s = v) (hown : w.ownsRow base e size v n xs)
    (B : Nat) (A : Option Addr) (m c : Nat) (news : List Value) (hx : a.eval x = .slice A m c) (hr : Rd w B size A m news) (h1 : ∀ u ∈ news, u.oneCell' = true)
    (hbytes : (n + m) * bytes ≤ 140737488355328) (hb0 : 0 < bytes) (hbase : base ≤ w.heap.size)
    (h : ∀ v' w', w'.ownsRow base e size v' (n + m) (xs ++ news) → Below base w w' → wpList P ops Q rest (a.put o.dst v') w') : wpList P ops Q (o :: rest) a w :=
  wpList_plain hgd fun _ hK => wp_appRd s x t ho base e i z size bytes ht hi hz hsize hby hzs hsz v n xs hs hown B A m c news hx hr h1 hbytes hb0 hbase fun v' w' h2 h3 => hK _ _ (h v' w' h2 h3)

end Go.Proofs.YtmikckhihfcooaaDoor
namespace Go.Proofs.YtmikckhihfcooaaDoor
structure Ed where
  at_ : Int
  del : Int
  ins : List UInt8
deriving DecidableEq, Inhabited
/-- One edit behind another one that ends at p. -/
def edOne (n : Int) (p : Option Int) (x : Ed) : Int :=
  if x.at_ < 0 ∨ x.del < 0 ∨ n < x.at_ ∨ n < x.at_ + x.del then 1 else if 40 < x.ins.length then 2 else if x.del = 0 ∧ x.ins.length = 0 then 5 else if ∃ e, p = some e ∧ x.at_ ≤ e then 6 else 0
def edGo (n : Int) : Option Int → Int → List Ed → Int
  | _, size, [] => if 200 < size then 11 else 0
  | p, size, x :: r => if edOne n p x = 0 then edGo n (some (x.at_ + x.del)) (size + (x.ins.length - x.del)) r else edOne n p x
/-- The error of a script. -/
def edErr (n : Int) (l : List Ed) : Int := if n < 0 ∨ 200 < n then 1 else if 20 < l.length then 2 else edGo n none n l
def grows : List Ed → Int
  | [] => 0
  | x :: r => (x.ins.length - x.del) + grows r
theorem grows_append (a b : List Ed) : grows (a ++ b) = grows a + grows b := by
  induction a with
  | nil => simp [grows]
  | cons x a ih => simp [grows, ih]; omega
def lastEnd (l : List Ed) : Option Int := l.getLast?.map fun x => x.at_ + x.del
/-- Where the checks stand. -/
theorem edGo_take (n : Int) (l : List Ed) (k : Nat) (hk : k < l.length) (h : edGo n none n l = edGo n (lastEnd (l.take k)) (n + grows (l.take k)) (l.drop k)) (h0 : edOne n (lastEnd (l.take k)) l[k] = 0) :
    edGo n none n l = edGo n (lastEnd (l.take (k + 1))) (n + grows (l.take (k + 1))) (l.drop (k + 1)) := by
  rw [h, List.drop_eq_getElem_cons hk, edGo, if_pos h0, List.take_succ_eq_append_getElem hk, grows_append]
  simp only [grows, lastEnd, List.getLast?_append, List.getLast?_singleton, Option.some_or, Option.map_some]
  congr 1; omega
theorem edGo_bad (n : Int) (l : List Ed) (k : Nat) (hk : k < l.length) (h : edGo n none n l = edGo n (lastEnd (l.take k)) (n + grows (l.take k)) (l.drop k)) (h0 : edOne n (lastEnd (l.take k)) l[k] ≠ 0) :
    edGo n none n l = edOne n (lastEnd (l.take k)) l[k] := by
  rw [h, List.drop_eq_getElem_cons hk, edGo, if_neg h0]
theorem edGo_end (n : Int) (l : List Ed) (h : edGo n none n l = edGo n (lastEnd (l.take l.length)) (n + grows (l.take l.length)) (l.drop l.length)) : edGo n none n l = if 200 < n + grows l then 11 else 0 := by
  rw [h, List.drop_length, List.take_length, edGo]
theorem lastEnd_take (l : List Ed) (k : Nat) (hk : k < l.length) : lastEnd (l.take (k + 1)) = some (l[k].at_ + l[k].del) := by
  unfold lastEnd
  rw [List.take_succ_eq_append_getElem hk, List.getLast?_append]
  simp
/-- A right script, from a place on. -/
inductive Chain (n : Int) : Option Int → List Ed → Prop
  | nil (p) : Chain n p []
  | cons (p x r) : edOne n p x = 0 → Chain n (some (x.at_ + x.del)) r → Chain n p (x :: r)
theorem edGo_zero {n : Int} {l : List Ed} : ∀ {p : Option Int} {s : Int}, edGo n p s l = 0 ↔ Chain n p l ∧ s + grows l ≤ 200 := by
  induction l with
  | nil =>
    intro p s
    simp only [edGo, grows]
    constructor
    · intro h; exact ⟨.nil _, by split at h <;> omega⟩
    · rintro ⟨_, h⟩; rw [if_neg (by omega)]
  | cons x r ih =>
    intro p s
    simp only [edGo, grows]
    by_cases h : edOne n p x = 0
    · rw [if_pos h, ih]
      constructor
      · rintro ⟨a, b⟩; exact ⟨.cons _ _ _ h a, by omega⟩
      · rintro ⟨a, b⟩; cases a; exact ⟨by assumption, by omega⟩
    · rw [if_neg h]
      constructor
      · intro h'; exact absurd h' h
      · rintro ⟨a, b⟩; cases a; exact absurd (by assumption) h
theorem edErr_zero {n : Int} {l : List Ed} : edErr n l = 0 ↔ 0 ≤ n ∧ n ≤ 200 ∧ l.length ≤ 20 ∧ Chain n none l ∧ n + grows l ≤ 200 := by
  unfold edErr
  by_cases h1 : n < 0 ∨ 200 < n
  · rw [if_pos h1]
    constructor
    · intro h; cases h
    · rintro ⟨_, _, _⟩; omega
  · rw [if_neg h1]
    by_cases h2 : 20 < l.length
    · rw [if_pos h2]
      constructor
      · intro h; cases h
      · rintro ⟨_, _, _, _⟩; omega
    · rw [if_neg h2, edGo_zero]
      constructor
      · rintro ⟨a, b⟩; exact ⟨by omega, by omega, by omega, a, b⟩
      · rintro ⟨_, _, _, a, b⟩; exact ⟨a, b⟩
theorem edOne_zero {n : Int} {p : Option Int} {x : Ed} (h : edOne n p x = 0) : 0 ≤ x.at_ ∧ 0 ≤ x.del ∧ x.at_ ≤ n ∧ x.at_ + x.del ≤ n ∧ x.ins.length ≤ 40 ∧ ¬ (x.del = 0 ∧ x.ins.length = 0) ∧ ∀ e, p = some e → e < x.at_ := by
  unfold edOne at h
  by_cases h1 : x.at_ < 0 ∨ x.del < 0 ∨ n < x.at_ ∨ n < x.at_ + x.del
  · rw [if_pos h1] at h; cases h
  · rw [if_neg h1] at h
    by_cases h2 : 40 < x.ins.length
    · rw [if_pos h2] at h; cases h
    · rw [if_neg h2] at h
      by_cases h3 : x.del = 0 ∧ x.ins.length = 0
      · rw [if_pos h3] at h; cases h
      · rw [if_neg h3] at h
        by_cases h4 : ∃ e, p = some e ∧ x.at_ ≤ e
        · rw [if_pos h4] at h; cases h
        · refine ⟨by omega, by omega, by omega, by omega, by omega, h3, fun e he => ?_⟩
          exact Int.lt_of_not_ge fun hh => h4 ⟨e, he, hh⟩
theorem Chain.mem {n : Int} {p : Option Int} {l : List Ed} (h : Chain n p l) : ∀ x ∈ l, 0 ≤ x.at_ ∧ 0 ≤ x.del ∧ x.at_ + x.del ≤ n ∧ x.ins.length ≤ 40 ∧ ¬ (x.del = 0 ∧ x.ins.length = 0) ∧ ∀ e, p = some e → e < x.at_ := by
  induction h with
  | nil p => intro x hx; cases hx
  | cons p y r h0 h ih =>
    intro x hx
    have h1 := edOne_zero h0
    rcases List.mem_cons.1 hx with rfl | hx
    · exact ⟨h1.1, h1.2.1, h1.2.2.2.1, h1.2.2.2.2.1, h1.2.2.2.2.2.1, h1.2.2.2.2.2.2⟩
    · obtain ⟨a, b, c, d, e, f⟩ := ih x hx
      refine ⟨a, b, c, d, e, fun q hq => ?_⟩
      have := h1.2.2.2.2.2.2 q hq
      have := f _ rfl
      omega
theorem Chain.grows_le {n : Int} {p : Option Int} {l : List Ed} (h : Chain n p l) : - (n : Int) * l.length ≤ grows l ∧ grows l ≤ 40 * l.length := by
  induction h with
  | nil p => simp [grows]
  | cons p x r h0 h ih =>
    have h1 := edOne_zero h0
    simp only [grows, List.length_cons]
    have e : -n * ((r.length + 1 : Nat) : Int) = -n * r.length - n := by
      rw [Int.natCast_add, Int.mul_add]; simp; omega
    rw [e]
    have e2 : ((r.length + 1 : Nat) : Int) = (r.length : Int) + 1 := by omega
    constructor <;> omega
/-- A text, edited, from the place p on. -/
def edTo (s : List UInt8) : Nat → List Ed → List UInt8
  | p, [] => s.drop p
  | p, x :: r => (s.drop p).take (x.at_.toNat - p) ++ x.ins ++ edTo s (x.at_ + x.del).toNat r
/-- The last one first. -/
def edDone (s : List UInt8) : List Ed → List UInt8
  | [] => s
  | x :: r => (edDone s r).take x.at_.toNat ++ x.ins ++ (edDone s r).drop (x.at_ + x.del).toNat
def after (p : Nat) : Option Int → Prop
  | none => p = 0
  | some e => e = (p : Int)
theorem edDone_eq {n : Nat} {s : List UInt8} (hs : s.length = n) {l : List Ed} : ∀ {p : Option Int} {k : Nat}, Chain n p l → after k p → k ≤ n → edDone s l = s.take k ++ edTo s k l := by
  induction l with
  | nil => intro p k _ _ _; simp [edDone, edTo]
  | cons x r ih =>
    intro p k hc ha hk
    cases hc with
    | cons _ _ _ h0 h =>
      obtain ⟨h1, h2, h3, h4, h5, h6, h7⟩ := edOne_zero h0
      have hk2 : (k : Int) ≤ x.at_ := by
        cases p with
        | none => simp only [after] at ha; omega
        | some e => simp only [after] at ha; have := h7 e rfl; omega
      obtain ⟨a, ha'⟩ := Int.eq_ofNat_of_zero_le h1
      obtain ⟨d, hd'⟩ := Int.eq_ofNat_of_zero_le h2
      have e1 := ih (p := some (x.at_ + x.del)) (k := a + d) h (by simp only [after]; omega) (by omega)
      simp only [edDone, edTo]
      rw [e1, ha', hd']
      have t1 : ((a : Int) + (d : Int)).toNat = a + d := by omega
      have t2 : ((a : Int)).toNat = a := by omega
      rw [t1, t2]
      have l1 : (s.take (a + d)).length = a + d := by rw [List.length_take]; omega
      rw [List.take_append_of_le_length (by omega), List.drop_append_of_le_length (by omega), List.take_take, Nat.min_eq_left (by omega)]
      have e3 : s.take a = s.take k ++ (s.drop k).take (a - k) := by
        rw [← List.take_add]; congr 1; omega
      have e4 : (s.take (a + d)).drop (a + d) = [] := List.drop_of_length_le (by omega)
      rw [e3, e4]
      simp
theorem edDone_is {s : List UInt8} {l : List Ed} (h : edErr s.length l = 0) : edDone s l = edTo s 0 l := by
  obtain ⟨_, _, _, h, _⟩ := edErr_zero.1 h
  have := edDone_eq rfl h (k := 0) rfl (Nat.zero_le _)
  simpa using this
theorem edTo_length {n : Nat} {s : List UInt8} (hs : s.length = n) {l : List Ed} : ∀ {p : Option Int} {k : Nat}, Chain n p l → after k p → k ≤ n → ((edTo s k l).length : Int) = n - k + grows l := by
  induction l with
  | nil => intro p k _ _ _; simp [edTo, grows]; omega
  | cons x r ih =>
    intro p k hc ha hk
    cases hc with
    | cons _ _ _ h0 h =>
      obtain ⟨h1, h2, h3, h4, h5, h6, h7⟩ := edOne_zero h0
      have hk2 : (k : Int) ≤ x.at_ := by
        cases p with
        | none => simp only [after] at ha; omega
        | some e => simp only [after] at ha; have := h7 e rfl; omega
      have e1 := ih (p := some (x.at_ + x.del)) (k := (x.at_ + x.del).toNat) h (by simp only [after]; omega) (by omega)
      simp only [edTo, grows, List.length_append, List.length_take, List.length_drop]
      omega
end Go.Proofs.YtmikckhihfcooaaDoor
namespace Go.Proofs.YtmikckhihfcooaaDoor
/-- The edits back. -/
def undoFrom (s : List UInt8) : Int → List Ed → List Ed
  | _, [] => []
  | g, x :: r => ⟨x.at_ + g, x.ins.length, (s.drop x.at_.toNat).take x.del.toNat⟩ :: undoFrom s (g + (x.ins.length - x.del)) r
def undoL (s : List UInt8) (l : List Ed) : List Ed := undoFrom s 0 l
theorem undoFrom_length (s : List UInt8) (l : List Ed) : ∀ g, (undoFrom s g l).length = l.length := by
  induction l with
  | nil => intro g; rfl
  | cons x r ih => intro g; simp [undoFrom, ih]
theorem undoFrom_get (s : List UInt8) (l : List Ed) : ∀ (g : Int) (k : Nat) (h : k < l.length), (undoFrom s g l)[k]'(by rw [undoFrom_length]; exact h) = ⟨l[k].at_ + (g + grows (l.take k)), l[k].ins.length, (s.drop l[k].at_.toNat).take l[k].del.toNat⟩ := by
  induction l with
  | nil => intro g k h; simp at h
  | cons x r ih =>
    intro g k h
    cases k with
    | zero => simp [undoFrom, grows]
    | succ k =>
      have := ih (g + (x.ins.length - x.del)) k (by simpa using h)
      simp only [undoFrom, List.getElem_cons_succ, List.take_succ_cons, grows]
      rw [this]
      congr 1
      omega
theorem undoFrom_take (s : List UInt8) (l : List Ed) (g : Int) (k : Nat) (h : k < l.length) : (undoFrom s g l).take (k + 1) = (undoFrom s g l).take k ++ [⟨l[k].at_ + (g + grows (l.take k)), l[k].ins.length, (s.drop l[k].at_.toNat).take l[k].del.toNat⟩] := by
  rw [List.take_succ_eq_append_getElem (by rw [undoFrom_length]; exact h), undoFrom_get]
theorem Chain.grows_lo {n : Nat} {p : Option Int} {l : List Ed} (h : Chain n p l) : ∀ k, after k p → k ≤ n → -((n : Int) - k) ≤ grows l := by
  induction h with
  | nil => intro k _ _; simp only [grows]; omega
  | cons p x r h0 h ih =>
    intro k hk hkn
    obtain ⟨h1, h2, h3, h4, h5, h6, h7⟩ := edOne_zero h0
    have hkx : (k : Int) ≤ x.at_ := by
      cases p with
      | none => simp only [after] at hk; omega
      | some e => simp only [after] at hk; have := h7 e rfl; omega
    have := ih (x.at_ + x.del).toNat (by simp only [after]; omega) (by omega)
    simp only [grows]; omega
theorem undo_chain {n : Nat} {s : List UInt8} (hs : s.length = n) {p : Option Int} {l : List Ed} (h : Chain n p l) : ∀ (k : Nat) (g : Int) (q : Option Int), after k p → k ≤ n → 0 ≤ k + g → (∀ e, q = some e → p ≠ none ∧ e = k + g) → (∀ x ∈ l, x.del ≤ 40) →
    Chain (n + g + grows l) q (undoFrom s g l) := by
  induction h with
  | nil => intro k g q _ _ _ _ _; exact .nil _
  | cons p x r h0 h ih =>
    intro k g q hk hkn hg hq hd
    obtain ⟨h1, h2, h3, h4, h5, h6, h7⟩ := edOne_zero h0
    have hkx : (k : Int) ≤ x.at_ ∧ (p ≠ none → (k : Int) < x.at_) := by
      cases p with
      | none => simp only [after] at hk; exact ⟨by omega, fun h => absurd rfl h⟩
      | some e => simp only [after] at hk; have := h7 e rfl; exact ⟨by omega, fun _ => by omega⟩
    have hlo := h.grows_lo (x.at_ + x.del).toNat (by simp only [after]; omega) (by omega)
    have hx := hd x (by simp)
    simp only [undoFrom, grows]
    refine .cons _ _ _ ?_ ?_
    · unfold edOne
      simp only [List.length_take, List.length_drop]
      rw [if_neg (by omega), if_neg (by omega), if_neg (by omega), if_neg]
      rintro ⟨e, he, hh⟩
      obtain ⟨hp, rfl⟩ := hq e he
      have := hkx.2 hp
      omega
    · have := ih (x.at_ + x.del).toNat (g + (x.ins.length - x.del)) (some (x.at_ + g + x.ins.length)) (by simp only [after]; omega) (by omega) (by omega) (fun e he => ⟨by simp, by simp only [Option.some.injEq] at he; omega⟩) (fun y hy => hd y (by simp [hy]))
      rw [show (n : Int) + g + (x.ins.length - x.del + grows r) = n + (g + (x.ins.length - x.del)) + grows r by omega]
      exact this
theorem undo_grows {n : Nat} {s : List UInt8} (hs : s.length = n) {p : Option Int} {l : List Ed} (h : Chain n p l) : ∀ g, grows (undoFrom s g l) = - grows l := by
  induction h with
  | nil => intro g; simp [undoFrom, grows]
  | cons p x r h0 h ih =>
    intro g
    obtain ⟨h1, h2, h3, h4, _⟩ := edOne_zero h0
    simp only [undoFrom, grows, ih, List.length_take, List.length_drop]
    omega
/-- The edits back are a right script of the text that was made. -/
theorem undo_right {s : List UInt8} {l : List Ed} (h : edErr s.length l = 0) (hd : ∀ x ∈ l, x.del ≤ 40) : edErr (edDone s l).length (undoL s l) = 0 := by
  obtain ⟨h0, h1, h2, hc, hf⟩ := edErr_zero.1 h
  have hl := edTo_length rfl hc (k := 0) rfl (Nat.zero_le _)
  rw [edDone_is h]
  have hch := undo_chain rfl hc 0 0 none rfl (Nat.zero_le _) (by omega) (fun _ h => by cases h) hd
  have hg := undo_grows rfl hc 0
  refine edErr_zero.2 ⟨by omega, by omega, by unfold undoL; rw [undoFrom_length]; exact h2, ?_, ?_⟩
  · rw [hl]; unfold undoL
    rw [show (s.length : Int) - ((0 : Nat) : Int) + grows l = s.length + 0 + grows l by omega]; exact hch
  · rw [hl]; unfold undoL; rw [hg]; omega
/-- Where a place comes to lie; is it still there? -/
def plc (at_ : Int) : Int → List Ed → Int × Bool
  | mv, [] => (at_ + mv, true)
  | mv, x :: r => if at_ < x.at_ then (at_ + mv, true) else if at_ < x.at_ + x.del then (x.at_ + mv, false) else plc at_ (mv + (x.ins.length - x.del)) r
theorem plc_steps (at_ : Int) (l : List Ed) : ∀ (mv : Int) (k : Nat), k ≤ l.length → (∀ j (h : j < l.length), j < k → l[j].at_ ≤ at_ ∧ l[j].at_ + l[j].del ≤ at_) → plc at_ mv l = plc at_ (mv + grows (l.take k)) (l.drop k) := by
  induction l with
  | nil => intro mv k _ _; simp [grows]
  | cons x r ih =>
    intro mv k hk h
    cases k with
    | zero => simp [grows]
    | succ k =>
      have h0 := h 0 (by simp) (by omega)
      simp only [List.getElem_cons_zero] at h0
      simp only [plc, List.take_succ_cons, List.drop_succ_cons, grows]
      rw [if_neg (by omega), if_neg (by omega), ih _ k (by simpa using hk) (fun j hj hjk => by have := h (j + 1) (by simpa using hj) (by omega); simpa using this)]
      congr 1; omega
theorem Chain.lt {n : Int} {p : Option Int} {l : List Ed} (h : Chain n p l) : ∀ (i j : Nat) (hi : i < l.length) (hj : j < l.length), i < j → l[i].at_ + l[i].del < l[j].at_ := by
  induction h with
  | nil => intro i j hi; simp at hi
  | cons p x r h0 h ih =>
    intro i j hi hj hij
    obtain ⟨j, rfl⟩ : ∃ k, j = k + 1 := ⟨j - 1, by omega⟩
    cases i with
    | zero =>
      have := h.mem (r[j]'(by simpa using hj)) (List.getElem_mem _)
      simpa using this.2.2.2.2.2 _ rfl
    | succ i => simpa using ih i j (by simpa using hi) (by simpa using hj) (by omega)
end Go.Proofs.YtmikckhihfcooaaDoor
