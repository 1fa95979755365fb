/- Words for memory that all walks of this seat share: a slice that reads as a list of cells; small facts on worlds. No premise beyond each lemma's own. The turns of a word in their order, and how a word is counted among them from behind (plain). Two rows of the call's own, side by side. -/
import Derived.Test.YtncakjchaniheaaRows
import Derived.WalkKit
import Derived.WalkSpells
import Derived.WalkLawsBesides
import Derived.Deep.QuietTactic
import Derived.BigQuiet
import Derived.Deep.Draws
import Derived.Deep.AppendLies
import Derived.Lib.Hide
import Derived.Deep.Light
import Derived.Lib.QuietBelow
import Derived.Deep.RegionWith
import Derived.Deep.RegionLaw
import Derived.Deep.DeepCutAuto
import Derived.Lib.ConvBytes
import Derived.Laws.BytesArg
import Derived.Laws.IdiomStrings
namespace Go.Proofs.Ytncakjchaniheaa
open Go.RowKit

theorem blk_add (a : Addr) (n : Nat) : (a.add n).block = a.block := by unfold Addr.add; split <;> rfl
theorem add_add (a : Addr) (i j : Nat) : (a.add i).add j = a.add (i + j) := by
  unfold Addr.add
  by_cases hi : i = 0 <;> by_cases hj : j = 0 <;> simp [hi, hj, Nat.add_assoc]

/-- The slice value `.slice A n c` of elements of `size` cells reads as the cells `xs`; it lies below block `B`. -/
def Rd (w : World) (B size : Nat) (A : Option Addr) (n : Nat) (xs : List Value) : Prop :=
  xs.length = n * size ∧ (0 < n → ∃ ad, A = some ad ∧ ad.block < B ∧ ∀ j u, xs[j]? = some u → w.cell? (ad.add j) = some u)

section
variable {w w' : World} {B B' size n : Nat} {A : Option Addr} {xs : List Value}
theorem Rd.nil_ : Rd w B size A 0 [] := ⟨by simp, fun h => absurd h (by omega)⟩
theorem Rd.at_ {k : Nat} (h : Rd w B 1 A n xs) (hk : k < n) : ∃ ad u, A = some ad ∧ ad.block < B ∧ xs[k]? = some u ∧ w.cell? (ad.add k) = some u := by
  obtain ⟨ad, e, hb, hc⟩ := h.2 (by omega)
  have hl : k < xs.length := by have := h.1; omega
  exact ⟨ad, xs[k], e, hb, List.getElem?_eq_getElem hl, hc k _ (List.getElem?_eq_getElem hl)⟩
theorem Rd.keep (h : Rd w B size A n xs) (hk : ∀ p : Addr, p.block < B → w'.cell? p = w.cell? p) : Rd w' B size A n xs :=
  ⟨h.1, fun hn => by
    obtain ⟨ad, e, hb, hc⟩ := h.2 hn
    exact ⟨ad, e, hb, fun j u hu => (hk _ (by rw [blk_add]; exact hb)).trans (hc j u hu)⟩⟩
theorem Rd.more (h : Rd w B size A n xs) (hB : B ≤ B') : Rd w B' size A n xs :=
  ⟨h.1, fun hn => by
    obtain ⟨ad, e, hb, hc⟩ := h.2 hn
    exact ⟨ad, e, by omega, hc⟩⟩
theorem Rd.below (h : Rd w B size A n xs) (hb : Below B w w') : Rd w' B size A n xs := h.keep fun _ hp => hb.cell hp
theorem Rd.drew (h : Rd w B size A n xs) : Rd w.drew B size A n xs := h
theorem Rd.drewN (h : Rd w B size A n xs) (k : Nat) : Rd (w.drewN k) B size A n xs := h
theorem Rd.alloc (h : Rd w B size A n xs) (hB : B ≤ w.heap.size) (o : Obj) : Rd (w.alloc o) B size A n xs := h.keep fun p hp => World.cell?_alloc_lt w o p (by omega)
theorem Rd.of_own {base : Nat} {e : TypeId} {c : Nat} (h : w.ownsRow base e size (.slice A n c) n xs) : Rd w w.heap.size size A n xs := by
  refine ⟨h.1, fun hn => ?_⟩
  obtain ⟨g, cap, hv, _, hlt⟩ := h.form hn
  have hA : A = some ⟨g, 0, none⟩ := by injection hv
  subst hA
  exact ⟨_, rfl, hlt, h.cells (g := g) rfl⟩
end

theorem cell_row (w : World) (g i : Nat) (cs : Array Value) (t : TypeId) (hg : w.heap[g]? = some (.cells cs t (0, 0))) : w.cell? ((⟨g, 0, none⟩ : Addr).add i) = cs[i]? := by
  have hadd : (⟨g, 0, none⟩ : Addr).add i = ⟨g, i, none⟩ := by unfold Addr.add; split <;> simp_all
  rw [hadd, cell_of_row w g i cs t (0, 0) hg]
/-- A block that reads whole is a slice that reads. -/
theorem Rd.of_heap {w : World} {g : Nat} {cs : Array Value} {t : TypeId} {B size n : Nat} (hg : w.heap[g]? = some (.cells cs t (0, 0))) (hB : g < B) (hn : cs.size = n * size) :
    Rd w B size (some ⟨g, 0, none⟩) n cs.toList :=
  ⟨by simpa using hn, fun _ => ⟨_, rfl, hB, fun j u hu => by rw [cell_row w g j cs t hg]; simpa using hu⟩⟩
theorem Rd.new_ (w : World) (cs : Array Value) (t : TypeId) {B size n : Nat} (hB : w.heap.size < B) (hn : cs.size = n * size) :
    Rd (w.alloc (.cells cs t)) B size (some ⟨w.heap.size, 0, none⟩) n cs.toList :=
  Rd.of_heap (heap_alloc_new w _) hB hn

theorem ret_int {k : IntKind} {a b : Int} (h : a = b) : Ending.returned (.int k a) = .returned (.int k b) := by rw [h]
theorem ret_bool {a b : Bool} (h : a = b) : Ending.returned (.bool a) = .returned (.bool b) := by rw [h]
theorem bcell {w w1 : World} (hb : Below w.heap.size w w1) : (∀ b o, b < w.heap.size → w1.cell? ⟨b, o, none⟩ = w.cell? ⟨b, o, none⟩) ∧ (∀ b o, b < w.heap.size → w1.frozen? ⟨b, o, none⟩ = w.frozen? ⟨b, o, none⟩) :=
  ⟨fun b o h => hb.cell (p := ⟨b, o, none⟩) h, fun b o h => hb.frozen (p := ⟨b, o, none⟩) h⟩

theorem blen (s : ByteArray) : s.data.toList.length = s.size := by rw [Array.length_toList]; rfl
/-- Bytes as cells. -/
def byteCells (l : List UInt8) : List Value := l.map fun b => .int .u8 (b.toNat : Int)
theorem bytesWorld_below (w : World) (e : TypeId) (s : ByteArray) : Below w.heap.size w (Lib.bytesWorld w e s) :=
  ⟨rfl, rfl, rfl, by rw [Lib.bytesWorld_size]; omega, fun k hk => Lib.bytesWorld_at_old w e s k hk⟩
theorem bytesWorld_rd (w : World) (e : TypeId) (s : ByteArray) {B : Nat} (hB : w.heap.size < B) : Rd (Lib.bytesWorld w e s) B 1 (some ⟨w.heap.size, 0, none⟩) s.size (byteCells s.data.toList) := by
  refine ⟨by rw [byteCells, List.length_map, blen]; omega, fun _ => ⟨_, rfl, hB, fun j u hu => ?_⟩⟩
  have hj : j < s.data.toList.length := by
    have := (List.getElem?_eq_some_iff.1 hu).1
    simpa [byteCells] using this
  have hadd : (⟨w.heap.size, 0, none⟩ : Addr).add j = ⟨w.heap.size, j, none⟩ := by unfold Addr.add; split <;> simp_all
  rw [hadd, Lib.bytesWorld_cell w e s j (by rw [blen] at hj; exact hj), ← hu, byteCells, List.getElem?_map, List.getD_eq_getElem?_getD, List.getElem?_eq_getElem hj]
  rfl

theorem below_of_regrown {w w' : World} (h : ∃ p : Regrown, w' = Go.Sort.grow (redrawn w p.d) p.os) : Below w.heap.size w w' := by
  obtain ⟨p, rfl⟩ := h
  exact below_regrown w p.d p.os
theorem drew_cell (w : World) (a : Addr) : w.drew.cell? a = w.cell? a := rfl
theorem bthen {w w2 w3 : World} (h : Below w.heap.size w w2) (k : Below w2.heap.size w2 w3) : Below w.heap.size w w3 := h.trans (k.mono h.size)
theorem beqB (x y : ByteArray) : (x.toList == y.toList) = decide (x = y) := by
  rw [ByteArray.toList_eq, ByteArray.toList_eq, Bool.eq_iff_iff, beq_iff_eq, decide_eq_true_iff]
  constructor
  · intro h
    cases x; cases y
    simp only [ByteArray.mk.injEq]
    exact Array.toList_inj.1 h
  · rintro rfl; rfl
/-- The string of these bytes. -/
def S (l : List UInt8) : ByteArray := ⟨l.toArray⟩
/-- The bytes of a string. -/
def L (s : ByteArray) : List UInt8 := s.data.toList
theorem L_S (l : List UInt8) : L (S l) = l := rfl
theorem S_L (s : ByteArray) : S (L s) = s := rfl
theorem L_len (s : ByteArray) : (L s).length = s.size := blen s
theorem L_inj {a b : ByteArray} (h : L a = L b) : a = b := by have := congrArg S h; exact this
theorem L_append (s t : ByteArray) : L (s ++ t) = L s ++ L t := by simp [L]
theorem L_extract (s : ByteArray) (a b : Nat) : L (s.extract a b) = ((L s).drop a).take (b - a) := by simp [L, ByteArray.data_extract, Array.toList_extract, List.extract_eq_take_drop]
theorem L_empty : L ByteArray.empty = [] := rfl
theorem S_data (l : List UInt8) : (S l).data.toList = l := rfl
theorem S_of (s : ByteArray) : S s.data.toList = s := rfl
theorem S_size (l : List UInt8) : (S l).size = l.length := by rw [← blen]; rfl
theorem S_inj {a b : List UInt8} (h : S a = S b) : a = b := by have := congrArg (fun s => s.data.toList) h; exact this
theorem extract_S (s : ByteArray) (a b : Nat) : s.extract a b = S (((L s).drop a).take (b - a)) := by rw [← L_extract]; rfl
theorem append_S (s t : ByteArray) : s ++ t = S (L s ++ L t) := by rw [← L_append]; rfl
/-- 'string(b)'. -/
theorem run_bytes_string {P : Program} (w : World) {src dst e : TypeId} (hs : P.underlying src = some (.slice e)) (he : P.underlying e = some (.int .u8)) (hd : P.underlying dst = some .string)
    {A : Option Addr} {n c B : Nat} {l : List UInt8} (h : Rd w B 1 A n (byteCells l)) : (convert src dst (.slice A n c)).run P w = .ok (.string ⟨l.toArray⟩) w := by
  have hn : l.length = n := by have := h.1; simpa [byteCells] using this
  cases A with
  | none =>
    have h0 : n = 0 := by
      rcases Nat.eq_zero_or_pos n with h0 | h0
      · exact h0
      · obtain ⟨_, h1, _⟩ := h.2 h0; cases h1
    subst h0
    rw [List.eq_nil_of_length_eq_zero hn]
    exact run_convert_bytes_nil w src e hs he 0 c dst hd
  | some ad =>
    subst hn
    refine run_convert_bytes_back w src dst e ad c l hs he hd fun j hj => ?_
    obtain ⟨ad', h1, _, h2⟩ := h.2 (by omega)
    cases h1
    exact h2 j _ (by rw [byteCells, List.getElem?_map, List.getElem?_eq_getElem hj]; rfl)

theorem run_index_S {P : Program} {t : TypeId} (h : P.underlying t = some .string) (s : ByteArray) (i : Nat) (hi : i < s.size) (w : World) :
    (Instr.index t (.string s) (.int .i64 (i : Int))).run P w = .ok (.int .u8 (((L s).getD i 0).toNat : Int)) w := by
  rw [run_index_string w t s .i64 i h, dif_pos ⟨by omega, by omega⟩]
  have e : s[((i : Int)).toNat]'(by omega) = (L s).getD i 0 := by
    rw [List.getD_eq_getElem?_getD, List.getElem?_eq_getElem (by rw [L_len]; exact hi)]
    rfl
  rw [e]
theorem conv_new {P : Program} {src dst e : TypeId} (hs : P.underlying src = some (.slice e)) (he : P.underlying e = some (.int .u8)) (hd : P.underlying dst = some .string)
    (w : World) (cs : Array Value) (l : List UInt8) (n c : Nat) (h : cs.toList = byteCells l) (hn : l.length = n) :
    (convert src dst (.slice (some ⟨w.heap.size, 0, none⟩) n c)).run P (w.alloc (.cells cs e)) = .ok (.string (S l)) (w.alloc (.cells cs e)) :=
  run_bytes_string _ hs he hd (A := some ⟨w.heap.size, 0, none⟩) (B := w.heap.size + 1) (l := l)
    (by rw [← h]; exact Rd.new_ (size := 1) w _ _ (Nat.lt_succ_self _) (by rw [← Array.length_toList, h, byteCells, List.length_map, hn]; omega))

theorem own_below {w w' : World} {base : Nat} {e : TypeId} {size : Nat} {v : Value} {n : Nat} {xs : List Value} (h : w.ownsRow base e size v n xs) (hb : Below w.heap.size w w') : w'.ownsRow base e size v n xs :=
  h.kept (row := none) ⟨hb.os, hb.tape, hb.output, hb.size, fun k hk _ => hb.block k hk⟩ (by cases hv : v.ownBlock <;> simp)
theorem own_drewN {w : World} {base : Nat} {e : TypeId} {size : Nat} {v : Value} {n : Nat} {xs : List Value} (h : w.ownsRow base e size v n xs) (k : Nat) : (w.drewN k).ownsRow base e size v n xs := h
theorem own_lower {w : World} {base base' : Nat} {e : TypeId} {size : Nat} {v : Value} {n : Nat} {xs : List Value} (h : w.ownsRow base e size v n xs) (hb : base' ≤ base) : w.ownsRow base' e size v n xs := by
  refine ⟨h.1, ?_⟩
  rcases h.2 with h | ⟨g, cap, cur, h1, h2, h3⟩
  · exact .inl h
  · exact .inr ⟨g, cap, cur, h1, by omega, h3⟩
theorem own_form {w : World} {base : Nat} {e : TypeId} {size : Nat} {v : Value} {n : Nat} {xs : List Value} (h : w.ownsRow base e size v n xs) : ∃ A c, v = .slice A n c ∧ n ≤ c ∧ c ≤ maxLen ∧ Rd w w.heap.size size A n xs := by
  have h0 := h
  rcases h.2 with ⟨rfl, rfl⟩ | ⟨g, cap, cur, rfl, h2, h3, h4, h5, _⟩
  · have hx : xs = [] := List.eq_nil_of_length_eq_zero (by have := h.1; omega)
    subst hx
    exact ⟨none, 0, rfl, Nat.le_refl _, Nat.zero_le _, Rd.nil_⟩
  · exact ⟨_, cap, rfl, h4, h5, Rd.of_own h0⟩
/-- 'append' to a row of the call's own, its source cells at an address. -/
theorem wpList_app {P : Program} {w : World} {ops : Array Oper} {rest : List Oper} {o : Oper} {a : Act} {Q : Exit → Act → World → Prop} (hgd : o.guard = none) (s x : Operand) (t : TypeId)
    (ho : o.op = .call { callee := .builtin .append, args := #[s, x], argTypes := #[t, t] })
    (base : Nat) (e : TypeId) (i : TypeInfo) (z : Value) (size bytes : Nat) (ht : P.underlying t = some (.slice e)) (hi : P.info? e = some i) (hz : i.zero = some z)
    (hsize : i.size = size) (hby : i.bytes = bytes) (hzs : z.cells.size = size) (hsz : 0 < size)
    (v : Value) (n : Nat) (xs : List Value) (hs : a.eval s = v) (hown : w.ownsRow base e size v n xs)
    (ad : Addr) (m c : Nat) (news : List Value) (hx : a.eval x = .slice (some ad) m c) (hl : news.length = m * size) (hnews : ∀ j u, news[j]? = some u → w.cell? (ad.add j) = some u) (h1 : ∀ u ∈ news, u.oneCell' = true)
    (hbytes : (n + m) * bytes ≤ 140737488355328) (hb0 : 0 < bytes) (hbase : base ≤ w.heap.size)
    (h : ∀ v' w', w'.ownsRow base e size v' (n + m) (xs ++ news) → Below base w w' → wpList P ops Q rest (a.put o.dst v') w') : wpList P ops Q (o :: rest) a w :=
  wpList_append_own w hgd s x t ho base e i z size bytes ht hi hz hsize hby hzs hsz v n xs hs hown ad m c news hx hl hnews h1
    (by have := Nat.le_mul_of_pos_right (n + m) hb0; unfold maxLen; omega) hbytes hbase
    fun v' w' h2 h3 _ => h v' w' h2 ((Below.refl base w).grown h3 hbase (fun k hk => (hown.lt k hk).1))

theorem run_append_nil {P : Program} (w : World) {base : Nat} {t ty e : TypeId} {i : TypeInfo} {size : Nat} (ht : P.underlying t = some (.slice e)) (hi : P.info? e = some i)
    {v : Value} {n : Nat} {xs : List Value} (hown : w.ownsRow base e size v n xs) (c : Nat) : (Builtin.append_ #[t, t] ty #[v, .slice none 0 c]).run P w = .ok v w := by
  rcases hown.2 with ⟨rfl, rfl⟩ | ⟨g, cap, cur, rfl, _, _, hnc, _⟩
  · simp [Builtin.append_, run_underlying ht, sizeOf, typeInfo, hi, Builtin.lenOf, Builtin.firstCells]
  · simp [Builtin.append_, run_underlying ht, sizeOf, typeInfo, hi, Builtin.lenOf, Builtin.firstCells, hnc, storeCells]
/-- 'append(out, src...)', out the call's own, src any slice that reads. -/
theorem run_appRd {P : Program} {w : World} {base : Nat} {t ty e : TypeId} {i : TypeInfo} {z : Value} {size bytes : Nat} (ht : P.underlying t = some (.slice e)) (hi : P.info? e = some i) (hz : i.zero = some z)
    (hsize : i.size = size) (hby : i.bytes = bytes) (hzs : z.cells.size = size) (hsz : 0 < size) {v : Value} {n : Nat} {xs : List Value} (hown : w.ownsRow base e size v n xs)
    {B : Nat} {A : Option Addr} {m c : Nat} {news : List Value} (hr : Rd w B size A m news) (h1 : ∀ u ∈ news, u.oneCell' = true)
    (hbytes : (n + m) * bytes ≤ 140737488355328) (hb0 : 0 < bytes) (hbase : base ≤ w.heap.size) :
    ∃ v' w', (Builtin.append_ #[t, t] ty #[v, .slice A m c]).run P w = .ok v' w' ∧ w'.ownsRow base e size v' (n + m) (xs ++ news) ∧ Below base w w' := by
  have h63 : n + m ≤ maxLen := by have := Nat.le_mul_of_pos_right (n + m) hb0; unfold maxLen; omega
  cases A with
  | none =>
    have hm : m = 0 := by
      rcases Nat.eq_zero_or_pos m with h0 | h0
      · exact h0
      · obtain ⟨ad, h, _⟩ := hr.2 h0; cases h
    subst hm
    have hn : news = [] := List.eq_nil_of_length_eq_zero (by simpa using hr.1)
    subst hn
    exact ⟨v, w, run_append_nil w ht hi hown c, by simpa using hown, Below.refl _ _⟩
  | some ad =>
    have hcells : ∀ j u, news[j]? = some u → w.cell? (ad.add j) = some u := by
      intro j u hu
      rcases Nat.eq_zero_or_pos m with h0 | h0
      · subst h0
        have hn : news = [] := List.eq_nil_of_length_eq_zero (by simpa using hr.1)
        subst hn; simp at hu
      · obtain ⟨ad', h, _, hc⟩ := hr.2 h0
        cases h
        exact hc j u hu
    obtain ⟨v', w', hrun, h2, h3, _⟩ := run_append_own (P := P) w base t ty e i z size bytes ht hi hz hsize hby hzs hsz v n xs hown ad m c news hr.1 hcells h1 h63 hbytes hbase
    exact ⟨v', w', hrun, h2, (Below.refl base w).grown h3 hbase (fun k hk => (hown.lt k hk).1)⟩
theorem wp_appRd {P : Program} {w : World} {o : Oper} {a : Act} {K : Act → World → Prop} {Q : Exit → Act → World → Prop} (s x : Operand) (t : TypeId)
    (ho : o.op = .call { callee := .builtin .append, args := #[s, x], argTypes := #[t, t] })
    (base : Nat) (e : TypeId) (i : TypeInfo) (z : Value) (size bytes : Nat) (ht : P.underlying t = some (.slice e)) (hi : P.info? e = some i) (hz : i.zero = some z)
    (hsize : i.size = size) (hby : i.bytes = bytes) (hzs : z.cells.size = size) (hsz : 0 < size)
    (v : Value) (n : Nat) (xs : List Value) (hs : a.eval s = v) (hown : w.ownsRow base e size v n xs)
    (B : Nat) (A : Option Addr) (m c : Nat) (news : List Value) (hx : a.eval x = .slice A m c) (hr : Rd w B size A m news) (h1 : ∀ u ∈ news, u.oneCell' = true)
    (hbytes : (n + m) * bytes ≤ 140737488355328) (hb0 : 0 < bytes) (hbase : base ≤ w.heap.size)
    (h : ∀ v' w', w'.ownsRow base e size v' (n + m) (xs ++ news) → Below base w w' → K (a.put o.dst v') w') : o.wp P a w K Q := by
  obtain ⟨v', w', hrun, h2, h3⟩ := run_appRd (P := P) (ty := o.type) ht hi hz hsize hby hzs hsz hown (c := c) hr h1 hbytes hb0 hbase
  unfold Oper.wp execOp
  simp only [ho, resolve, invoke, builtin, Sem.run_bind, Sem.run_pure, Result.andThen_ok, List.map_toArray, List.map_cons, List.map_nil, hs, hx, hrun]
  exact h v' w' h2 h3
theorem wpList_appRd {P : Program} {w : World} {ops : Array Oper} {rest : List Oper} {o : Oper} {a : Act} {Q : Exit → Act → World → Prop} (hgd : o.guard = none) (s x : Operand) (t : TypeId)
    (ho : o.op = .call { callee := .builtin .append, args := #[s, x], argTypes := #[t, t] })
    (base : Nat) (e : TypeId) (i : TypeInfo) (z : Value) (size bytes : Nat) (ht : P.underlying t = some (.slice e)) (hi : P.info? e = some i) (hz : i.zero = some z)
    (hsize : i.size = size) (hby : i.bytes = bytes) (hzs : z.cells.size = size) (hsz : 0 < size)
    (v : Value) (n : Nat) (xs : List Value) (hs : a.eval s = v) (hown : w.ownsRow base e size v n xs)
    (B : Nat) (A : Option Addr) (m c : Nat) (news : List Value) (hx : a.eval x = .slice A m c) (hr : Rd w B size A m news) (h1 : ∀ u ∈ news, u.oneCell' = true)
    (hbytes : (n + m) * bytes ≤ 140737488355328) (hb0 : 0 < bytes) (hbase : base ≤ w.heap.size)
    (h : ∀ v' w', w'.ownsRow base e size v' (n + m) (xs ++ news) → Below base w w' → wpList P ops Q rest (a.put o.dst v') w') : wpList P ops Q (o :: rest) a w :=
  wpList_plain hgd fun _ hK => wp_appRd s x t ho base e i z size bytes ht hi hz hsize hby hzs hsz v n xs hs hown B A m c news hx hr h1 hbytes hb0 hbase fun v' w' h2 h3 => hK _ _ (h v' w' h2 h3)

end Go.Proofs.Ytncakjchaniheaa
namespace Go.Proofs.Ytncakjchaniheaa
theorem leB_cons {x y : UInt8} {a b : List UInt8} : x :: a ≤ y :: b ↔ x < y ∨ (x = y ∧ a ≤ b) := List.cons_le_cons_iff
theorem leB_take : ∀ (m : Nat) (a c : List UInt8), a ≤ c → a.take m ≤ c.take m := by
  intro m
  induction m with
  | zero => intro a c _; simp
  | succ m ih =>
    intro a c h
    match a, c, h with
    | [], c, _ => simp
    | x :: a, [], h =>
      have := List.le_antisymm h (List.nil_le _)
      cases this
    | x :: a, y :: c, h =>
      simp only [List.take_succ_cons]
      rcases leB_cons.1 h with h1 | ⟨h0, h1⟩
      · exact leB_cons.2 (.inl h1)
      · exact leB_cons.2 (.inr ⟨h0, ih a c h1⟩)
/-- The turn that begins at i. -/
def rotT (s : List UInt8) (i : Nat) : List UInt8 := s.drop i ++ s.take i
theorem rotT_len {s : List UInt8} {i : Nat} (h : i ≤ s.length) : (rotT s i).length = s.length := by
  unfold rotT; rw [List.length_append, List.length_drop, List.length_take]; omega
theorem rotT_cyc {s : List UInt8} {i j : Nat} (hi : i < s.length) (hj : j < s.length) : (rotT s i).getD j 0 = s.getD ((i + j) % s.length) 0 := by
  unfold rotT
  rw [List.getD_eq_getElem?_getD, List.getD_eq_getElem?_getD]
  congr 1
  rcases Nat.lt_or_ge (i + j) s.length with h | h
  · rw [Nat.mod_eq_of_lt h, List.getElem?_append_left (by rw [List.length_drop]; omega), List.getElem?_drop]
  · have e : (i + j) % s.length = i + j - s.length := by
      rw [Nat.mod_eq_sub_mod h, Nat.mod_eq_of_lt (by omega)]
    rw [e, List.getElem?_append_right (by rw [List.length_drop]; omega), List.length_drop, List.getElem?_take, if_pos (by omega)]
    congr 1; omega
def ltT (s : List UInt8) (x y : Nat) : Prop := rotT s x < rotT s y ∨ (rotT s x = rotT s y ∧ x < y)
instance (s : List UInt8) (x y : Nat) : Decidable (ltT s x y) := inferInstanceAs (Decidable (_ ∨ _))
theorem ltT_irrefl (s : List UInt8) (x : Nat) : ¬ ltT s x x := by
  rintro (h | ⟨_, h⟩)
  · exact List.lt_irrefl _ h
  · omega
theorem ltT_trans {s : List UInt8} {x y z : Nat} (h1 : ltT s x y) (h2 : ltT s y z) : ltT s x z := by
  rcases h1 with h1 | ⟨e1, h1⟩
  · rcases h2 with h2 | ⟨e2, h2⟩
    · exact .inl (List.lt_trans h1 h2)
    · rw [e2] at h1; exact .inl h1
  · rcases h2 with h2 | ⟨e2, h2⟩
    · rw [← e1] at h2; exact .inl h2
    · exact .inr ⟨e1.trans e2, by omega⟩
theorem ltT_tri {s : List UInt8} {x y : Nat} (h1 : ¬ ltT s x y) (h2 : ¬ ltT s y x) : x = y := by
  have e : rotT s x = rotT s y := by
    refine List.le_antisymm (fun h => h2 (.inl h)) (fun h => h1 (.inl h))
  rcases Nat.lt_trichotomy x y with h | h | h
  · exact absurd (.inr ⟨e, h⟩) h1
  · exact h
  · exact absurd (.inr ⟨e.symm, h⟩) h2
/-- Where the turns begin, in their order. -/
def turnO (s : List UInt8) : List Nat := (List.range s.length).mergeSort fun x y => decide (¬ ltT s y x)
theorem turnO_perm (s : List UInt8) : (turnO s).Perm (List.range s.length) := List.mergeSort_perm _ _
theorem turnO_pw (s : List UInt8) : (turnO s).Pairwise fun x y => ¬ ltT s y x := by
  have h := List.pairwise_mergeSort (le := fun (x y : Nat) => decide (¬ ltT s y x)) (fun a b c h1 h2 => by
    rw [decide_eq_true_iff] at *
    intro h3
    by_cases h4 : ltT s b c
    · exact h1 (ltT_trans h4 h3)
    · have := ltT_tri h4 h2
      subst this
      exact h1 h3) (fun a b => by
    rw [Bool.or_eq_true, decide_eq_true_iff, decide_eq_true_iff]
    by_cases h : ltT s b a
    · right; intro h2; exact ltT_irrefl _ _ (ltT_trans h h2)
    · exact .inl h) (List.range s.length)
  exact h.imp fun h => by rwa [decide_eq_true_iff] at h
theorem turnO_len (s : List UInt8) : (turnO s).length = s.length := by rw [(turnO_perm s).length_eq, List.length_range]
theorem turnO_lt {s : List UInt8} {k : Nat} (h : k < s.length) : (turnO s).getD k 0 < s.length := by
  rw [List.getD_eq_getElem?_getD, List.getElem?_eq_getElem (by rw [turnO_len]; exact h)]
  exact List.mem_range.1 ((turnO_perm s).mem_iff.1 (List.getElem_mem _))
def lastT (s : List UInt8) (i : Nat) : UInt8 := s.getD ((i + s.length - 1) % s.length) 0
/-- The turns' last bytes, in the turns' order; and where the word itself is. -/
def turnL (s : List UInt8) : List UInt8 := (turnO s).map (lastT s)
def turnAt (s : List UInt8) : Nat := if s = [] then 0 else (turnO s).idxOf 0
theorem turnL_len (s : List UInt8) : (turnL s).length = s.length := by rw [turnL, List.length_map, turnO_len]
/- Counting from behind. -/
def lessC (t : List UInt8) (c : UInt8) : Nat := t.countP fun b => decide (b < c)
def stepC (t : List UInt8) (c : UInt8) (lh : Nat × Nat) : Nat × Nat :=
  if lh.1 < lh.2 then (lessC t c + (t.take lh.1).count c, lessC t c + (t.take lh.2).count c) else lh
def countC (t p : List UInt8) : Nat := (p.foldr (stepC t) (0, t.length)).2 - (p.foldr (stepC t) (0, t.length)).1
theorem dc_take {α : Type} {Q : α → Bool} : ∀ {o : List α}, o.Pairwise (fun x y => Q y = true → Q x = true) → o.filter Q = o.take (o.countP Q) := by
  intro o
  induction o with
  | nil => intro _; rfl
  | cons x o ih =>
    intro h
    obtain ⟨h1, h2⟩ := List.pairwise_cons.1 h
    cases hq : Q x with
    | true => rw [List.filter_cons_of_pos hq, List.countP_cons_of_pos hq, List.take_succ_cons, ih h2]
    | false =>
      have hn : ∀ y ∈ o, ¬ Q y = true := fun y hy h3 => by rw [h1 y hy h3] at hq; cases hq
      rw [List.filter_cons_of_neg (by rw [hq]; simp), List.countP_cons_of_neg (by rw [hq]; simp), List.filter_eq_nil_iff.2 hn, List.countP_eq_zero.2 hn, List.take_zero]
theorem next_perm {n : Nat} (h : 0 < n) : ((List.range n).map fun x => (x + 1) % n).Perm (List.range n) := by
  obtain ⟨m, rfl⟩ : ∃ m, n = m + 1 := ⟨n - 1, by omega⟩
  have e : ((List.range (m + 1)).map fun x => (x + 1) % (m + 1)) = (List.range m).map Nat.succ ++ [0] := by
    rw [List.range_succ, List.map_append]
    congr 1
    · apply List.map_congr_left
      intro x hx
      rw [List.mem_range] at hx
      exact Nat.mod_eq_of_lt (by omega)
    · simp
  rw [e, List.range_succ_eq_map]
  exact List.perm_append_comm
theorem count_next {n : Nat} (h : 0 < n) (f : Nat → Bool) : (List.range n).countP f = (List.range n).countP fun x => f ((x + 1) % n) := by
  have := (next_perm h).countP_eq f
  rw [List.countP_map] at this
  exact this.symm
theorem last_next {s : List UInt8} {x : Nat} (h : x < s.length) : lastT s ((x + 1) % s.length) = s.getD x 0 := by
  unfold lastT
  congr 1
  rcases Nat.lt_or_ge (x + 1) s.length with h1 | h1
  · rw [Nat.mod_eq_of_lt h1, show x + 1 + s.length - 1 = x + s.length by omega, Nat.add_mod_right, Nat.mod_eq_of_lt h]
  · have e : x + 1 = s.length := by omega
    rw [e, Nat.mod_self, Nat.zero_add, Nat.mod_eq_of_lt (by omega)]; omega
/-- The first m bytes of the turn at x. -/
def preT (s : List UInt8) (m x : Nat) : List UInt8 := (rotT s x).take m
theorem rotT_getElem? {s : List UInt8} {x j : Nat} (hx : x < s.length) : (rotT s x)[j]? = if j < s.length then some (s.getD ((x + j) % s.length) 0) else none := by
  by_cases h : j < s.length
  · rw [if_pos h, ← rotT_cyc hx h, List.getD_eq_getElem?_getD, List.getElem?_eq_getElem (by rw [rotT_len (Nat.le_of_lt hx)]; exact h)]; rfl
  · rw [if_neg h, List.getElem?_eq_none (by rw [rotT_len (Nat.le_of_lt hx)]; omega)]
theorem preT_succ {s : List UInt8} {m x : Nat} (hx : x < s.length) (hm : m < s.length) : preT s (m + 1) x = s.getD x 0 :: preT s m ((x + 1) % s.length) := by
  have hx1 : (x + 1) % s.length < s.length := Nat.mod_lt _ (by omega)
  apply List.ext_getElem?
  intro j
  unfold preT
  cases j with
  | zero =>
    rw [List.getElem?_take, if_pos (by omega), rotT_getElem? hx, if_pos (by omega), Nat.add_zero, Nat.mod_eq_of_lt hx]; rfl
  | succ j =>
    rw [List.getElem?_cons_succ, List.getElem?_take, List.getElem?_take, rotT_getElem? hx, rotT_getElem? hx1]
    by_cases h : j < m
    · rw [if_pos (by omega), if_pos h, if_pos (by omega), if_pos (by omega), Nat.mod_add_mod]
      congr 2; congr 1; omega
    · rw [if_neg (by omega), if_neg h]
/-- How many turns begin below a word, and how many at most with it. -/
def lowT (s w : List UInt8) : Nat := (List.range s.length).countP fun x => decide (preT s w.length x < w)
def highT (s w : List UInt8) : Nat := (List.range s.length).countP fun x => decide (preT s w.length x ≤ w)
def eqT (s w : List UInt8) : Nat := (List.range s.length).countP fun x => decide (preT s w.length x = w)
theorem high_low (s w : List UInt8) : highT s w = lowT s w + eqT s w := by
  unfold highT lowT eqT
  induction List.range s.length with
  | nil => rfl
  | cons x l ih =>
    rw [List.countP_cons, List.countP_cons, List.countP_cons, ih]
    by_cases h1 : preT s w.length x < w
    · have h2 : preT s w.length x ≤ w := List.le_of_lt h1
      have h3 : preT s w.length x ≠ w := fun e => by rw [e] at h1; exact List.lt_irrefl _ h1
      rw [decide_eq_true h1, decide_eq_true h2, decide_eq_false h3]; simp only [Bool.false_eq_true, if_true, if_false]; omega
    · by_cases h3 : preT s w.length x = w
      · have h2 : preT s w.length x ≤ w := by rw [h3]; exact List.le_refl _
        rw [decide_eq_false h1, decide_eq_true h2, decide_eq_true h3]; simp only [Bool.false_eq_true, if_true, if_false]; omega
      · have h2 : ¬ preT s w.length x ≤ w := fun h2 => h3 (List.le_antisymm h2 h1)
        rw [decide_eq_false h1, decide_eq_false h2, decide_eq_false h3]; simp only [Bool.false_eq_true, if_false]; omega
theorem less_turn {s : List UInt8} (h : 0 < s.length) (c : UInt8) : lessC (turnL s) c = (List.range s.length).countP fun x => decide (s.getD x 0 < c) := by
  unfold lessC turnL
  rw [List.countP_map, (turnO_perm s).countP_eq, count_next h]
  apply List.countP_congr
  intro x hx
  rw [List.mem_range] at hx
  show (decide (lastT s ((x + 1) % s.length) < c) = true ↔ _)
  rw [last_next hx]
theorem take_count {s : List UInt8} (h : 0 < s.length) (c : UInt8) (Q : Nat → Bool) (hQ : (turnO s).Pairwise fun x y => Q y = true → Q x = true) :
    ((turnL s).take ((List.range s.length).countP Q)).count c = (List.range s.length).countP fun x => decide (s.getD x 0 = c) && Q ((x + 1) % s.length) := by
  rw [← (turnO_perm s).countP_eq Q]
  unfold turnL
  rw [← List.map_take, ← dc_take hQ, List.count, List.countP_map, List.countP_filter, (turnO_perm s).countP_eq, count_next h]
  apply List.countP_congr
  intro x hx
  rw [List.mem_range] at hx
  simp only [Function.comp, last_next hx, Bool.and_eq_true, beq_iff_eq, decide_eq_true_iff]
theorem pre_mono {s : List UInt8} {m x y : Nat} (h : ¬ ltT s y x) : preT s m x ≤ preT s m y := by
  refine leB_take m _ _ (fun h2 => h (.inl h2))
theorem low_step {s w : List UInt8} (c : UInt8) (hm : w.length < s.length) : lowT s (c :: w) = lessC (turnL s) c + ((turnL s).take (lowT s w)).count c := by
  have h : 0 < s.length := by omega
  rw [less_turn h]
  unfold lowT
  rw [take_count h c (fun x => decide (preT s w.length x < w)) ((turnO_pw s).imp fun hh h2 => by
    rw [decide_eq_true_iff] at *
    exact List.lt_of_le_of_lt (pre_mono hh) h2)]
  have key : ∀ l : List Nat, (∀ x ∈ l, x < s.length) → l.countP (fun x => decide (preT s (c :: w).length x < c :: w)) = l.countP (fun x => decide (s.getD x 0 < c)) + l.countP (fun x => decide (s.getD x 0 = c) && decide (preT s w.length ((x + 1) % s.length) < w)) := by
    intro l
    induction l with
    | nil => intro _; rfl
    | cons x l ih =>
      intro hl
      rw [List.countP_cons, List.countP_cons, List.countP_cons, ih fun y hy => hl y (List.mem_cons_of_mem _ hy)]
      have e := preT_succ (hl x List.mem_cons_self) hm
      rw [List.length_cons, e]
      generalize s.getD x 0 = b
      generalize preT s w.length ((x + 1) % s.length) = q
      have e2 : (b :: q < c :: w) ↔ (b < c ∨ b = c ∧ q < w) := List.cons_lt_cons_iff
      by_cases h1 : b < c
      · have h2 : b ≠ c := fun e => by subst e; exact UInt8.lt_irrefl _ h1
        rw [decide_eq_true h1, decide_eq_false h2, decide_eq_true (e2.2 (.inl h1))]; simp only [Bool.false_eq_true, Bool.false_and, if_true, if_false]; omega
      · by_cases h2 : b = c
        · by_cases h3 : (q < w)
          · rw [decide_eq_false h1, decide_eq_true h2, decide_eq_true h3, decide_eq_true (e2.2 (.inr ⟨h2, h3⟩))]; simp only [Bool.false_eq_true, Bool.true_and, if_true, if_false]; omega
          · have h4 : ¬ (b :: q < c :: w) := fun h => by
              rcases e2.1 h with h | h
              · exact h1 h
              · exact h3 h.2
            rw [decide_eq_false h1, decide_eq_true h2, decide_eq_false h3, decide_eq_false h4]; simp only [Bool.false_eq_true, Bool.true_and, if_false]; omega
        · have h4 : ¬ (b :: q < c :: w) := fun h => by
            rcases e2.1 h with h | h
            · exact h1 h
            · exact h2 h.1
          rw [decide_eq_false h1, decide_eq_false h2, decide_eq_false h4]; simp only [Bool.false_eq_true, Bool.false_and, if_false]; omega
  exact key _ fun x hx => List.mem_range.1 hx
theorem high_step {s w : List UInt8} (c : UInt8) (hm : w.length < s.length) : highT s (c :: w) = lessC (turnL s) c + ((turnL s).take (highT s w)).count c := by
  have h : 0 < s.length := by omega
  rw [less_turn h]
  unfold highT
  rw [take_count h c (fun x => decide (preT s w.length x ≤ w)) ((turnO_pw s).imp fun hh h2 => by
    rw [decide_eq_true_iff] at *
    exact List.le_trans (pre_mono hh) h2)]
  have key : ∀ l : List Nat, (∀ x ∈ l, x < s.length) → l.countP (fun x => decide (preT s (c :: w).length x ≤ c :: w)) = l.countP (fun x => decide (s.getD x 0 < c)) + l.countP (fun x => decide (s.getD x 0 = c) && decide (preT s w.length ((x + 1) % s.length) ≤ w)) := by
    intro l
    induction l with
    | nil => intro _; rfl
    | cons x l ih =>
      intro hl
      rw [List.countP_cons, List.countP_cons, List.countP_cons, ih fun y hy => hl y (List.mem_cons_of_mem _ hy)]
      have e := preT_succ (hl x List.mem_cons_self) hm
      rw [List.length_cons, e]
      generalize s.getD x 0 = b
      generalize preT s w.length ((x + 1) % s.length) = q
      have e2 : (b :: q ≤ c :: w) ↔ (b < c ∨ b = c ∧ q ≤ w) := leB_cons
      by_cases h1 : b < c
      · have h2 : b ≠ c := fun e => by subst e; exact UInt8.lt_irrefl _ h1
        rw [decide_eq_true h1, decide_eq_false h2, decide_eq_true (e2.2 (.inl h1))]; simp only [Bool.false_eq_true, Bool.false_and, if_true, if_false]; omega
      · by_cases h2 : b = c
        · by_cases h3 : (q ≤ w)
          · rw [decide_eq_false h1, decide_eq_true h2, decide_eq_true h3, decide_eq_true (e2.2 (.inr ⟨h2, h3⟩))]; simp only [Bool.false_eq_true, Bool.true_and, if_true, if_false]; omega
          · have h4 : ¬ (b :: q ≤ c :: w) := fun h => by
              rcases e2.1 h with h | h
              · exact h1 h
              · exact h3 h.2
            rw [decide_eq_false h1, decide_eq_true h2, decide_eq_false h3, decide_eq_false h4]; simp only [Bool.false_eq_true, Bool.true_and, if_false]; omega
        · have h4 : ¬ (b :: q ≤ c :: w) := fun h => by
            rcases e2.1 h with h | h
            · exact h1 h
            · exact h2 h.1
          rw [decide_eq_false h1, decide_eq_false h2, decide_eq_false h4]; simp only [Bool.false_eq_true, Bool.false_and, if_false]; omega
  exact key _ fun x hx => List.mem_range.1 hx
theorem eq_shrink {s w : List UInt8} (c : UInt8) (hm : w.length < s.length) (h0 : eqT s w = 0) : eqT s (c :: w) = 0 := by
  unfold eqT at *
  rw [List.countP_eq_zero] at *
  intro x hx h1
  rw [decide_eq_true_iff] at h1
  rw [List.mem_range] at hx
  rw [List.length_cons, preT_succ hx hm] at h1
  refine h0 ((x + 1) % s.length) (List.mem_range.2 (Nat.mod_lt _ (by omega))) ?_
  rw [decide_eq_true_iff]
  exact (List.cons.inj h1).2
/-- FERRAGINA, MANZINI: counted from behind a word is found as often as turns begin with it. -/
theorem count_turn {s : List UInt8} (p : List UInt8) (hp : p.length ≤ s.length) : countC (turnL s) p = eqT s p := by
  have key : ∀ p : List UInt8, p.length ≤ s.length → (p.foldr (stepC (turnL s)) (0, (turnL s).length) = (lowT s p, highT s p)) ∨ (¬ (p.foldr (stepC (turnL s)) (0, (turnL s).length)).1 < (p.foldr (stepC (turnL s)) (0, (turnL s).length)).2 ∧ eqT s p = 0) := by
    intro p
    induction p with
    | nil =>
      intro _
      left
      have e1 : lowT s [] = 0 := by
        unfold lowT
        rw [List.countP_eq_zero]
        intro x _ h
        rw [decide_eq_true_iff] at h
        exact List.not_lt_nil _ h
      have e2 : highT s [] = s.length := by
        unfold highT
        have : ∀ x ∈ List.range s.length, decide (preT s ([] : List UInt8).length x ≤ []) = true := fun x _ => by
          rw [decide_eq_true_iff]
          show (rotT s x).take 0 ≤ []
          rw [List.take_zero]; exact List.le_refl _
        rw [List.countP_eq_length.2 this, List.length_range]
      rw [e1, e2, turnL_len]; rfl
    | cons c w ih =>
      intro hp
      rw [List.length_cons] at hp
      rw [List.foldr_cons]
      rcases ih (by omega) with h | ⟨h1, h2⟩
      · rw [h]
        unfold stepC
        by_cases hl : lowT s w < highT s w
        · left
          rw [if_pos hl, ← low_step c (by omega), ← high_step c (by omega)]
        · right
          rw [if_neg hl]
          refine ⟨hl, eq_shrink c (by omega) ?_⟩
          have := high_low s w
          omega
      · right
        have e : stepC (turnL s) c (w.foldr (stepC (turnL s)) (0, (turnL s).length)) = w.foldr (stepC (turnL s)) (0, (turnL s).length) := by
          exact if_neg h1
        rw [e]
        exact ⟨h1, eq_shrink c (by omega) h2⟩
  unfold countC
  rcases key p hp with h | ⟨h1, h2⟩
  · rw [h]
    have := high_low s p
    simp only
    omega
  · omega
end Go.Proofs.Ytncakjchaniheaa
namespace Go.Proofs.Ytncakjchaniheaa
open Go.RowKit
section
variable {w : World} {base base' : Nat} {e e' : TypeId} {size size' : Nat} {v v' : Value} {n n' : Nat} {xs xs' : List Value}
/-- Rows of unlike elements lie in unlike blocks. -/
theorem own_ne (h : w.ownsRow base e size v n xs) (h' : w.ownsRow base' e' size' v' n' xs') (hne : e ≠ e') : v.ownBlock = none ∨ v.ownBlock ≠ v'.ownBlock := by
  rcases h.2 with ⟨rfl, _⟩ | ⟨g, cap, cur, rfl, _, h3, _⟩
  · exact .inl rfl
  · refine .inr fun hb => ?_
    rcases h'.2 with ⟨rfl, _⟩ | ⟨g', cap', cur', rfl, _, h3', _⟩
    · simp [Value.ownBlock] at hb
    · simp only [Value.ownBlock, Option.some.injEq] at hb
      subst hb
      rw [h3] at h3'
      injection h3' with h3'
      injection h3' with _ h4
      exact hne h4
end
theorem cells_new (w : World) (cs : Array Value) (t : TypeId) : ∀ j u, cs.toList[j]? = some u → (w.alloc (.cells cs t)).cell? (Addr.add ⟨w.heap.size, 0, none⟩ j) = some u := fun j u h => by
  rw [cell_row _ _ j cs t (heap_alloc_new w _)]; simpa using h
theorem cells_new2 (w : World) (a b : Value) (t : TypeId) : ∀ j u, [a, b][j]? = some u → (w.alloc (.cells #[a, b] t)).cell? (Addr.add ⟨w.heap.size, 0, none⟩ j) = some u := cells_new w #[a, b] t
theorem cells_new3 (w : World) (a b c : Value) (t : TypeId) : ∀ j u, [a, b, c][j]? = some u → (w.alloc (.cells #[a, b, c] t)).cell? (Addr.add ⟨w.heap.size, 0, none⟩ j) = some u := cells_new w #[a, b, c] t
theorem getB (s : ByteArray) (i : Nat) (h : i < s.size) : s[i]'h = (L s).getD i 0 := by
  rw [List.getD_eq_getElem?_getD, List.getElem?_eq_getElem (by rw [L_len]; exact h)]
  rfl
/-- What another row's append leaves. -/
theorem own_grown {w w' : World} {base base' : Nat} {e e' : TypeId} {size size' : Nat} {v v' : Value} {n n' : Nat} {xs xs' : List Value} (h : w.ownsRow base e size v n xs) (h' : w.ownsRow base' e' size' v' n' xs') (hne : e ≠ e') (hg : w.grownBy w' v'.ownBlock) : w'.ownsRow base e size v n xs :=
  h.kept hg (own_ne h h' hne)
/-- 'append' to a row of the call's own: what it turns is that row alone. -/
theorem wpList_appG {P : Program} {w : World} {ops : Array Oper} {rest : List Oper} {o : Oper} {a : Act} {Q : Exit → Act → World → Prop} (hgd : o.guard = none) (s x : Operand) (t : TypeId)
    (ho : o.op = .call { callee := .builtin .append, args := #[s, x], argTypes := #[t, t] })
    (base : Nat) (e : TypeId) (i : TypeInfo) (z : Value) (size bytes : Nat) (ht : P.underlying t = some (.slice e)) (hi : P.info? e = some i) (hz : i.zero = some z)
    (hsize : i.size = size) (hby : i.bytes = bytes) (hzs : z.cells.size = size) (hsz : 0 < size)
    (v : Value) (n : Nat) (xs : List Value) (hs : a.eval s = v) (hown : w.ownsRow base e size v n xs)
    (ad : Addr) (m c : Nat) (news : List Value) (hx : a.eval x = .slice (some ad) m c) (hl : news.length = m * size) (hnews : ∀ j u, news[j]? = some u → w.cell? (ad.add j) = some u) (h1 : ∀ u ∈ news, u.oneCell' = true)
    (hbytes : (n + m) * bytes ≤ 140737488355328) (hb0 : 0 < bytes) (hbase : base ≤ w.heap.size)
    (h : ∀ v' w', w'.ownsRow base e size v' (n + m) (xs ++ news) → w.grownBy w' v.ownBlock → Below base w w' → wpList P ops Q rest (a.put o.dst v') w') : wpList P ops Q (o :: rest) a w :=
  wpList_append_own w hgd s x t ho base e i z size bytes ht hi hz hsize hby hzs hsz v n xs hs hown ad m c news hx hl hnews h1
    (by have := Nat.le_mul_of_pos_right (n + m) hb0; unfold maxLen; omega) hbytes hbase
    fun v' w' h2 h3 _ => h v' w' h2 h3 ((Below.refl base w).grown h3 hbase (fun k hk => (hown.lt k hk).1))
end Go.Proofs.Ytncakjchaniheaa
