/- The edits back; where a place comes to lie. No program in sight. -/
import Derived.Test.YtmikckhihfcooaaGreatDoorEdit0
namespace Go.Proofs.YtmikckhihfcooaaGreatDoor
/-- The edits back. -/
def undoFrom (s : List UInt8) : Int → List Ed → List Ed
  | _, [] => []
  | g, x :: r => ⟨x.at_ + g, x.ins.length, (s.drop x.at_.toNat).take x.del.toNat⟩ :: undoFrom s (g + (x.ins.length - x.del)) r
def undoL (s : List UInt8) (l : List Ed) : List Ed := undoFrom s 0 l
theorem undoFrom_length (s : List UInt8) (l : List Ed) : ∀ g, (undoFrom s g l).length = l.length := by
  induction l with
  | nil => intro g; rfl
  | cons x r ih => intro g; simp [undoFrom, ih]
theorem undoFrom_get (s : List UInt8) (l : List Ed) : ∀ (g : Int) (k : Nat) (h : k < l.length), (undoFrom s g l)[k]'(by rw [undoFrom_length]; exact h) = ⟨l[k].at_ + (g + grows (l.take k)), l[k].ins.length, (s.drop l[k].at_.toNat).take l[k].del.toNat⟩ := by
  induction l with
  | nil => intro g k h; simp at h
  | cons x r ih =>
    intro g k h
    cases k with
    | zero => simp [undoFrom, grows]
    | succ k =>
      have := ih (g + (x.ins.length - x.del)) k (by simpa using h)
      simp only [undoFrom, List.getElem_cons_succ, List.take_succ_cons, grows]
      rw [this]
      congr 1
      omega
theorem undoFrom_take (s : List UInt8) (l : List Ed) (g : Int) (k : Nat) (h : k < l.length) : (undoFrom s g l).take (k + 1) = (undoFrom s g l).take k ++ [⟨l[k].at_ + (g + grows (l.take k)), l[k].ins.length, (s.drop l[k].at_.toNat).take l[k].del.toNat⟩] := by
  rw [List.take_succ_eq_append_getElem (by rw [undoFrom_length]; exact h), undoFrom_get]
theorem Chain.grows_lo {n : Nat} {p : Option Int} {l : List Ed} (h : Chain n p l) : ∀ k, after k p → k ≤ n → -((n : Int) - k) ≤ grows l := by
  induction h with
  | nil => intro k _ _; simp only [grows]; omega
  | cons p x r h0 h ih =>
    intro k hk hkn
    obtain ⟨h1, h2, h3, h4, h5, h6, h7⟩ := edOne_zero h0
    have hkx : (k : Int) ≤ x.at_ := by
      cases p with
      | none => simp only [after] at hk; omega
      | some e => simp only [after] at hk; have := h7 e rfl; omega
    have := ih (x.at_ + x.del).toNat (by simp only [after]; omega) (by omega)
    simp only [grows]; omega
theorem undo_chain {n : Nat} {s : List UInt8} (hs : s.length = n) {p : Option Int} {l : List Ed} (h : Chain n p l) : ∀ (k : Nat) (g : Int) (q : Option Int), after k p → k ≤ n → 0 ≤ k + g → (∀ e, q = some e → p ≠ none ∧ e = k + g) → (∀ x ∈ l, x.del ≤ 40) →
    Chain (n + g + grows l) q (undoFrom s g l) := by
  induction h with
  | nil => intro k g q _ _ _ _ _; exact .nil _
  | cons p x r h0 h ih =>
    intro k g q hk hkn hg hq hd
    obtain ⟨h1, h2, h3, h4, h5, h6, h7⟩ := edOne_zero h0
    have hkx : (k : Int) ≤ x.at_ ∧ (p ≠ none → (k : Int) < x.at_) := by
      cases p with
      | none => simp only [after] at hk; exact ⟨by omega, fun h => absurd rfl h⟩
      | some e => simp only [after] at hk; have := h7 e rfl; exact ⟨by omega, fun _ => by omega⟩
    have hlo := h.grows_lo (x.at_ + x.del).toNat (by simp only [after]; omega) (by omega)
    have hx := hd x (by simp)
    simp only [undoFrom, grows]
    refine .cons _ _ _ ?_ ?_
    · unfold edOne
      simp only [List.length_take, List.length_drop]
      rw [if_neg (by omega), if_neg (by omega), if_neg (by omega), if_neg]
      rintro ⟨e, he, hh⟩
      obtain ⟨hp, rfl⟩ := hq e he
      have := hkx.2 hp
      omega
    · have := ih (x.at_ + x.del).toNat (g + (x.ins.length - x.del)) (some (x.at_ + g + x.ins.length)) (by simp only [after]; omega) (by omega) (by omega) (fun e he => ⟨by simp, by simp only [Option.some.injEq] at he; omega⟩) (fun y hy => hd y (by simp [hy]))
      rw [show (n : Int) + g + (x.ins.length - x.del + grows r) = n + (g + (x.ins.length - x.del)) + grows r by omega]
      exact this
theorem undo_grows {n : Nat} {s : List UInt8} (hs : s.length = n) {p : Option Int} {l : List Ed} (h : Chain n p l) : ∀ g, grows (undoFrom s g l) = - grows l := by
  induction h with
  | nil => intro g; simp [undoFrom, grows]
  | cons p x r h0 h ih =>
    intro g
    obtain ⟨h1, h2, h3, h4, _⟩ := edOne_zero h0
    simp only [undoFrom, grows, ih, List.length_take, List.length_drop]
    omega
/-- The edits back are a right script of the text that was made. -/
theorem undo_right {s : List UInt8} {l : List Ed} (h : edErr s.length l = 0) (hd : ∀ x ∈ l, x.del ≤ 40) : edErr (edDone s l).length (undoL s l) = 0 := by
  obtain ⟨h0, h1, h2, hc, hf⟩ := edErr_zero.1 h
  have hl := edTo_length rfl hc (k := 0) rfl (Nat.zero_le _)
  rw [edDone_is h]
  have hch := undo_chain rfl hc 0 0 none rfl (Nat.zero_le _) (by omega) (fun _ h => by cases h) hd
  have hg := undo_grows rfl hc 0
  refine edErr_zero.2 ⟨by omega, by omega, by unfold undoL; rw [undoFrom_length]; exact h2, ?_, ?_⟩
  · rw [hl]; unfold undoL
    rw [show (s.length : Int) - ((0 : Nat) : Int) + grows l = s.length + 0 + grows l by omega]; exact hch
  · rw [hl]; unfold undoL; rw [hg]; omega
/-- Where a place comes to lie; is it still there? -/
def plc (at_ : Int) : Int → List Ed → Int × Bool
  | mv, [] => (at_ + mv, true)
  | mv, x :: r => if at_ < x.at_ then (at_ + mv, true) else if at_ < x.at_ + x.del then (x.at_ + mv, false) else plc at_ (mv + (x.ins.length - x.del)) r
theorem plc_steps (at_ : Int) (l : List Ed) : ∀ (mv : Int) (k : Nat), k ≤ l.length → (∀ j (h : j < l.length), j < k → l[j].at_ ≤ at_ ∧ l[j].at_ + l[j].del ≤ at_) → plc at_ mv l = plc at_ (mv + grows (l.take k)) (l.drop k) := by
  induction l with
  | nil => intro mv k _ _; simp [grows]
  | cons x r ih =>
    intro mv k hk h
    cases k with
    | zero => simp [grows]
    | succ k =>
      have h0 := h 0 (by simp) (by omega)
      simp only [List.getElem_cons_zero] at h0
      simp only [plc, List.take_succ_cons, List.drop_succ_cons, grows]
      rw [if_neg (by omega), if_neg (by omega), ih _ k (by simpa using hk) (fun j hj hjk => by have := h (j + 1) (by simpa using hj) (by omega); simpa using this)]
      congr 1; omega
theorem Chain.lt {n : Int} {p : Option Int} {l : List Ed} (h : Chain n p l) : ∀ (i j : Nat) (hi : i < l.length) (hj : j < l.length), i < j → l[i].at_ + l[i].del < l[j].at_ := by
  induction h with
  | nil => intro i j hi; simp at hi
  | cons p x r h0 h ih =>
    intro i j hi hj hij
    obtain ⟨j, rfl⟩ : ∃ k, j = k + 1 := ⟨j - 1, by omega⟩
    cases i with
    | zero =>
      have := h.mem (r[j]'(by simpa using hj)) (List.getElem_mem _)
      simpa using this.2.2.2.2.2 _ rfl
    | succ i => simpa using ih i j (by simpa using hi) (by simpa using hj) (by omega)
end Go.Proofs.YtmikckhihfcooaaGreatDoor
