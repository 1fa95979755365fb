/- The edits back; where a place comes to lie. No program in sight. edit.Apply, edit.Undo, edit.Place. edit.Place, the reference's Done. -/
import Derived.Test.YtmikckhihfcooaaPk02
import Derived.Test.YtmikckhihfcooaaPk12
import Derived.Test.YtmikckhihfcooaaPk05
namespace Go.Proofs.Ytmikckhihfcooaa
/-- The edits back. -/
def undoFrom (s : List UInt8) : Int → List Ed → List Ed
  | _, [] => []
  | g, x :: r => ⟨x.at_ + g, x.ins.length, (s.drop x.at_.toNat).take x.del.toNat⟩ :: undoFrom s (g + (x.ins.length - x.del)) r
def undoL (s : List UInt8) (l : List Ed) : List Ed := undoFrom s 0 l
theorem undoFrom_length (s : List UInt8) (l : List Ed) : ∀ g, (undoFrom s g l).length = l.length := by
  induction l with
  | nil => intro g; rfl
  | cons x r ih => intro g; simp [undoFrom, ih]
theorem undoFrom_get (s : List UInt8) (l : List Ed) : ∀ (g : Int) (k : Nat) (h : k < l.length), (undoFrom s g l)[k]'(by rw [undoFrom_length]; exact h) = ⟨l[k].at_ + (g + grows (l.take k)), l[k].ins.length, (s.drop l[k].at_.toNat).take l[k].del.toNat⟩ := by
  induction l with
  | nil => intro g k h; simp at h
  | cons x r ih =>
    intro g k h
    cases k with
    | zero => simp [undoFrom, grows]
    | succ k =>
      have := ih (g + (x.ins.length - x.del)) k (by simpa using h)
      simp only [undoFrom, List.getElem_cons_succ, List.take_succ_cons, grows]
      rw [this]
      congr 1
      omega
theorem undoFrom_take (s : List UInt8) (l : List Ed) (g : Int) (k : Nat) (h : k < l.length) : (undoFrom s g l).take (k + 1) = (undoFrom s g l).take k ++ [⟨l[k].at_ + (g + grows (l.take k)), l[k].ins.length, (s.drop l[k].at_.toNat).take l[k].del.toNat⟩] := by
  rw [List.take_succ_eq_append_getElem (by rw [undoFrom_length]; exact h), undoFrom_get]
theorem Chain.grows_lo {n : Nat} {p : Option Int} {l : List Ed} (h : Chain n p l) : ∀ k, after k p → k ≤ n → -((n : Int) - k) ≤ grows l := by
  induction h with
  | nil => intro k _ _; simp only [grows]; omega
  | cons p x r h0 h ih =>
    intro k hk hkn
    obtain ⟨h1, h2, h3, h4, h5, h6, h7⟩ := edOne_zero h0
    have hkx : (k : Int) ≤ x.at_ := by
      cases p with
      | none => simp only [after] at hk; omega
      | some e => simp only [after] at hk; have := h7 e rfl; omega
    have := ih (x.at_ + x.del).toNat (by simp only [after]; omega) (by omega)
    simp only [grows]; omega
theorem undo_chain {n : Nat} {s : List UInt8} (hs : s.length = n) {p : Option Int} {l : List Ed} (h : Chain n p l) : ∀ (k : Nat) (g : Int) (q : Option Int), after k p → k ≤ n → 0 ≤ k + g → (∀ e, q = some e → p ≠ none ∧ e = k + g) → (∀ x ∈ l, x.del ≤ 40) →
    Chain (n + g + grows l) q (undoFrom s g l) := by
  induction h with
  | nil => intro k g q _ _ _ _ _; exact .nil _
  | cons p x r h0 h ih =>
    intro k g q hk hkn hg hq hd
    obtain ⟨h1, h2, h3, h4, h5, h6, h7⟩ := edOne_zero h0
    have hkx : (k : Int) ≤ x.at_ ∧ (p ≠ none → (k : Int) < x.at_) := by
      cases p with
      | none => simp only [after] at hk; exact ⟨by omega, fun h => absurd rfl h⟩
      | some e => simp only [after] at hk; have := h7 e rfl; exact ⟨by omega, fun _ => by omega⟩
    have hlo := h.grows_lo (x.at_ + x.del).toNat (by simp only [after]; omega) (by omega)
    have hx := hd x (by simp)
    simp only [undoFrom, grows]
    refine .cons _ _ _ ?_ ?_
    · unfold edOne
      simp only [List.length_take, List.length_drop]
      rw [if_neg (by omega), if_neg (by omega), if_neg (by omega), if_neg]
      rintro ⟨e, he, hh⟩
      obtain ⟨hp, rfl⟩ := hq e he
      have := hkx.2 hp
      omega
    · have := ih (x.at_ + x.del).toNat (g + (x.ins.length - x.del)) (some (x.at_ + g + x.ins.length)) (by simp only [after]; omega) (by omega) (by omega) (fun e he => ⟨by simp, by simp only [Option.some.injEq] at he; omega⟩) (fun y hy => hd y (by simp [hy]))
      rw [show (n : Int) + g + (x.ins.length - x.del + grows r) = n + (g + (x.ins.length - x.del)) + grows r by omega]
      exact this
theorem undo_grows {n : Nat} {s : List UInt8} (hs : s.length = n) {p : Option Int} {l : List Ed} (h : Chain n p l) : ∀ g, grows (undoFrom s g l) = - grows l := by
  induction h with
  | nil => intro g; simp [undoFrom, grows]
  | cons p x r h0 h ih =>
    intro g
    obtain ⟨h1, h2, h3, h4, _⟩ := edOne_zero h0
    simp only [undoFrom, grows, ih, List.length_take, List.length_drop]
    omega
/-- The edits back are a right script of the text that was made. -/
theorem undo_right {s : List UInt8} {l : List Ed} (h : edErr s.length l = 0) (hd : ∀ x ∈ l, x.del ≤ 40) : edErr (edDone s l).length (undoL s l) = 0 := by
  obtain ⟨h0, h1, h2, hc, hf⟩ := edErr_zero.1 h
  have hl := edTo_length rfl hc (k := 0) rfl (Nat.zero_le _)
  rw [edDone_is h]
  have hch := undo_chain rfl hc 0 0 none rfl (Nat.zero_le _) (by omega) (fun _ h => by cases h) hd
  have hg := undo_grows rfl hc 0
  refine edErr_zero.2 ⟨by omega, by omega, by unfold undoL; rw [undoFrom_length]; exact h2, ?_, ?_⟩
  · rw [hl]; unfold undoL
    rw [show (s.length : Int) - ((0 : Nat) : Int) + grows l = s.length + 0 + grows l by omega]; exact hch
  · rw [hl]; unfold undoL; rw [hg]; omega
/-- Where a place comes to lie; is it still there? -/
def plc (at_ : Int) : Int → List Ed → Int × Bool
  | mv, [] => (at_ + mv, true)
  | mv, x :: r => if at_ < x.at_ then (at_ + mv, true) else if at_ < x.at_ + x.del then (x.at_ + mv, false) else plc at_ (mv + (x.ins.length - x.del)) r
theorem plc_steps (at_ : Int) (l : List Ed) : ∀ (mv : Int) (k : Nat), k ≤ l.length → (∀ j (h : j < l.length), j < k → l[j].at_ ≤ at_ ∧ l[j].at_ + l[j].del ≤ at_) → plc at_ mv l = plc at_ (mv + grows (l.take k)) (l.drop k) := by
  induction l with
  | nil => intro mv k _ _; simp [grows]
  | cons x r ih =>
    intro mv k hk h
    cases k with
    | zero => simp [grows]
    | succ k =>
      have h0 := h 0 (by simp) (by omega)
      simp only [List.getElem_cons_zero] at h0
      simp only [plc, List.take_succ_cons, List.drop_succ_cons, grows]
      rw [if_neg (by omega), if_neg (by omega), ih _ k (by simpa using hk) (fun j hj hjk => by have := h (j + 1) (by simpa using hj) (by omega); simpa using this)]
      congr 1; omega
theorem Chain.lt {n : Int} {p : Option Int} {l : List Ed} (h : Chain n p l) : ∀ (i j : Nat) (hi : i < l.length) (hj : j < l.length), i < j → l[i].at_ + l[i].del < l[j].at_ := by
  induction h with
  | nil => intro i j hi; simp at hi
  | cons p x r h0 h ih =>
    intro i j hi hj hij
    obtain ⟨j, rfl⟩ : ∃ k, j = k + 1 := ⟨j - 1, by omega⟩
    cases i with
    | zero =>
      have := h.mem (r[j]'(by simpa using hj)) (List.getElem_mem _)
      simpa using this.2.2.2.2.2 _ rfl
    | succ i => simpa using ih i j (by simpa using hi) (by simpa using hj) (by omega)
end Go.Proofs.Ytmikckhihfcooaa
namespace Go.Proofs.Ytmikckhihfcooaa
open Go.RowKit
theorem drop_cons_get {α : Type} {l : List α} {k : Nat} (h : k < l.length) : l.drop k = l[k] :: l.drop (k + 1) := List.drop_eq_getElem_cons h
/-- What Apply answers. -/
def apOut (s : ByteArray) (l : List Ed) : ByteArray := if edErr s.size l = 0 then S (edDone (L s) l) else S []
theorem ret_si {a b : ByteArray} {x y : Int} (h : a = b) (k : x = y) : Ending.returned (.tuple #[.string a, .int .i64 x]) = .returned (.tuple #[.string b, .int .i64 y]) := by rw [h, k]
/-- Where the loop of Apply stands. -/
structure ApAt (s : List UInt8) (l : List Ed) (k p : Nat) (out : List UInt8) : Prop where
  le : k ≤ l.length
  chain : ∃ q, Chain s.length q (l.drop k) ∧ after p q
  pn : p ≤ s.length
  eq : out ++ edTo s p (l.drop k) = edTo s 0 l
theorem ApAt.start {s : List UInt8} {l : List Ed} (h : edErr s.length l = 0) : ApAt s l 0 0 [] := ⟨Nat.zero_le _, ⟨none, (edErr_zero.1 h).2.2.2.1, rfl⟩, Nat.zero_le _, rfl⟩
theorem ApAt.bounds {s : List UInt8} {l : List Ed} {k p : Nat} {out : List UInt8} (h : ApAt s l k p out) (hk : k < l.length) : (p : Int) ≤ l[k].at_ ∧ 0 ≤ l[k].del ∧ l[k].at_ + l[k].del ≤ s.length ∧ l[k].ins.length ≤ 40 := by
  obtain ⟨q, hc, ha⟩ := h.chain
  rw [drop_cons_get hk] at hc
  cases hc with
  | cons _ _ _ h0 hc =>
    obtain ⟨h1, h2, h3, h4, h5, h6, h7⟩ := edOne_zero h0
    refine ⟨?_, h2, h4, h5⟩
    cases q with
    | none => simp only [after] at ha; omega
    | some e => simp only [after] at ha; have := h7 e rfl; omega
theorem ApAt.step {s : List UInt8} {l : List Ed} {k p : Nat} {out : List UInt8} (h : ApAt s l k p out) (hk : k < l.length) :
    ApAt s l (k + 1) (l[k].at_ + l[k].del).toNat (out ++ ((s.drop p).take (l[k].at_.toNat - p) ++ l[k].ins)) := by
  have hb := h.bounds hk
  obtain ⟨q, hc, ha⟩ := h.chain
  have he := h.eq
  rw [drop_cons_get hk] at hc he
  cases hc with
  | cons _ _ _ h0 hc =>
    refine ⟨hk, ⟨_, hc, by simp only [after]; omega⟩, by omega, ?_⟩
    rw [← he]; simp [edTo]
theorem ApAt.fin {s : List UInt8} {l : List Ed} {p : Nat} {out : List UInt8} (h : ApAt s l l.length p out) : out ++ s.drop p = edTo s 0 l := by
  have := h.eq
  rwa [List.drop_length] at this
theorem ApAt.len {s : List UInt8} {l : List Ed} {k p : Nat} {out : List UInt8} (h : ApAt s l k p out) (h0 : edErr s.length l = 0) : out.length ≤ 200 ∧ (edTo s 0 l).length ≤ 200 := by
  obtain ⟨_, _, _, hc, hf⟩ := edErr_zero.1 h0
  have hl := edTo_length rfl hc (k := 0) rfl (Nat.zero_le _)
  have := congrArg List.length h.eq
  rw [List.length_append] at this
  omega
/-- Is there an edit that takes much? -/
def bigDel (l : List Ed) : Bool := l.any fun x => decide (40 < x.del)
/-- What Undo answers: an error, or the edits back. -/
def unErr (s : ByteArray) (l : List Ed) : Int := if edErr s.size l = 0 then (if bigDel l = true then 2 else 0) else edErr s.size l
theorem info_ed : (Try.prog.info? 30).map (fun i => (i.zero, i.size, i.bytes)) = some (some (.agg #[.int .i64 0, .int .i64 0, .string ByteArray.empty]), 3, 32) := by kernel_rfl
theorem edCells_append (a b : List Ed) : edCells (a ++ b) = edCells a ++ edCells b := by simp [edCells]
theorem edErr_small {n : Int} {l : List Ed} (h : edErr n l = 0) : Small l := fun x hx => by
  obtain ⟨h0, h1, _, hc, _⟩ := edErr_zero.1 h
  have := hc.mem x hx
  omega
end Go.Proofs.Ytmikckhihfcooaa
namespace Go.Proofs.Ytmikckhihfcooaa
open Go.RowKit
/-- What Place answers. -/
def plErr (n : Int) (l : List Ed) (at_ : Int) : Int := if edErr n l = 0 then (if at_ < 0 ∨ n < at_ then 1 else 0) else edErr n l
def plOut (n : Int) (l : List Ed) (at_ : Int) : Int × Bool := if plErr n l at_ = 0 then plc at_ 0 l else (0, false)
theorem ret_ibi {a b : Int} {x y : Bool} {p q : Int} (h : a = b) (k : x = y) (m : p = q) : Ending.returned (.tuple #[.int .i64 a, .bool x, .int .i64 p]) = .returned (.tuple #[.int .i64 b, .bool y, .int .i64 q]) := by rw [h, k, m]
/-- What the reference's Done has come to, the k first edits still to do. -/
theorem done_bounds {s : List UInt8} {l : List Ed} (h : edErr s.length l = 0) {k : Nat} (hk : k < l.length) :
    ∃ a d : Nat, l[k].at_ = a ∧ l[k].del = d ∧ a + d ≤ (edDone s (l.drop (k + 1))).length ∧ (edDone s (l.drop (k + 1))).length ≤ 1000 ∧ l[k].ins.length ≤ 40 ∧
      edDone s (l.drop k) = (edDone s (l.drop (k + 1))).take a ++ l[k].ins ++ (edDone s (l.drop (k + 1))).drop (a + d) := by
  obtain ⟨h0, h1, h2, hc, h3⟩ := edErr_zero.1 h
  have hm := hc.mem l[k] (List.getElem_mem hk)
  obtain ⟨a, ha⟩ := Int.eq_ofNat_of_zero_le hm.1
  obtain ⟨d, hd⟩ := Int.eq_ofNat_of_zero_le hm.2.1
  have hch : ∀ (l : List Ed) (p : Option Int), Chain s.length p l → ∀ j, ∃ q, Chain s.length q (l.drop j) ∧ (∀ (hj : j - 1 < l.length), 0 < j → q = some (l[j - 1].at_ + l[j - 1].del)) := by
    intro l p hc
    induction hc with
    | nil => intro j; exact ⟨none, by rw [List.drop_nil]; exact .nil _, fun hj => by simp at hj⟩
    | cons p x r h0 h ih =>
      intro j
      cases j with
      | zero => exact ⟨p, .cons _ _ _ h0 h, fun _ h => absurd h (by omega)⟩
      | succ j =>
        obtain ⟨q, hq, hq2⟩ := ih j
        cases j with
        | zero => exact ⟨_, h, fun _ _ => rfl⟩
        | succ j => exact ⟨q, hq, fun hj _ => by have := hq2 (by simpa using hj) (by omega); simpa using this⟩
  obtain ⟨q, hq, hq2⟩ := hch l none hc (k + 1)
  have hq3 := hq2 (by simpa using hk) (by omega)
  simp only [Nat.add_sub_cancel] at hq3
  subst hq3
  have hle : a + d ≤ s.length := by omega
  have e1 := edDone_eq rfl hq (k := a + d) (by simp only [after]; omega) hle
  have e2 := edTo_length rfl hq (k := a + d) (by simp only [after]; omega) hle
  have e3 := congrArg List.length e1
  rw [List.length_append, List.length_take] at e3
  have e4 := hq.grows_le
  have e5 : (l.drop (k + 1)).length ≤ 20 := by rw [List.length_drop]; omega
  refine ⟨a, d, ha, hd, by omega, by omega, hm.2.2.2.1, ?_⟩
  rw [drop_cons_get hk, edDone, ha, hd]
  congr 1
end Go.Proofs.Ytmikckhihfcooaa
