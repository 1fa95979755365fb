/- Scripts of edits, their errors, and what they make of a text. No program in sight. edit.Check, the reference's EditsErr and Grows. A row of piles, and a cell of it that turns; what the insertion sort does, exchange by exchange (plain). -/
import Derived.Test.YtncakjchaniheaaDoorPk01
import Derived.Test.YtncakjchaniheaaDoorPk06
import Derived.Test.YtncakjchaniheaaDoorPk09
namespace Go.Proofs.YtncakjchaniheaaDoor
structure Ed where
  at_ : Int
  del : Int
  ins : List UInt8
deriving DecidableEq, Inhabited
/-- One edit behind another one that ends at p. -/
def edOne (n : Int) (p : Option Int) (x : Ed) : Int :=
  if x.at_ < 0 ∨ x.del < 0 ∨ n < x.at_ ∨ n < x.at_ + x.del then 1 else if 40 < x.ins.length then 2 else if x.del = 0 ∧ x.ins.length = 0 then 5 else if ∃ e, p = some e ∧ x.at_ ≤ e then 6 else 0
def edGo (n : Int) : Option Int → Int → List Ed → Int
  | _, size, [] => if 200 < size then 11 else 0
  | p, size, x :: r => if edOne n p x = 0 then edGo n (some (x.at_ + x.del)) (size + (x.ins.length - x.del)) r else edOne n p x
/-- The error of a script. -/
def edErr (n : Int) (l : List Ed) : Int := if n < 0 ∨ 200 < n then 1 else if 20 < l.length then 2 else edGo n none n l
def grows : List Ed → Int
  | [] => 0
  | x :: r => (x.ins.length - x.del) + grows r
theorem grows_append (a b : List Ed) : grows (a ++ b) = grows a + grows b := by
  induction a with
  | nil => simp [grows]
  | cons x a ih => simp [grows, ih]; omega
def lastEnd (l : List Ed) : Option Int := l.getLast?.map fun x => x.at_ + x.del
/-- Where the checks stand. -/
theorem edGo_take (n : Int) (l : List Ed) (k : Nat) (hk : k < l.length) (h : edGo n none n l = edGo n (lastEnd (l.take k)) (n + grows (l.take k)) (l.drop k)) (h0 : edOne n (lastEnd (l.take k)) l[k] = 0) :
    edGo n none n l = edGo n (lastEnd (l.take (k + 1))) (n + grows (l.take (k + 1))) (l.drop (k + 1)) := by
  rw [h, List.drop_eq_getElem_cons hk, edGo, if_pos h0, List.take_succ_eq_append_getElem hk, grows_append]
  simp only [grows, lastEnd, List.getLast?_append, List.getLast?_singleton, Option.some_or, Option.map_some]
  congr 1; omega
theorem edGo_bad (n : Int) (l : List Ed) (k : Nat) (hk : k < l.length) (h : edGo n none n l = edGo n (lastEnd (l.take k)) (n + grows (l.take k)) (l.drop k)) (h0 : edOne n (lastEnd (l.take k)) l[k] ≠ 0) :
    edGo n none n l = edOne n (lastEnd (l.take k)) l[k] := by
  rw [h, List.drop_eq_getElem_cons hk, edGo, if_neg h0]
theorem edGo_end (n : Int) (l : List Ed) (h : edGo n none n l = edGo n (lastEnd (l.take l.length)) (n + grows (l.take l.length)) (l.drop l.length)) : edGo n none n l = if 200 < n + grows l then 11 else 0 := by
  rw [h, List.drop_length, List.take_length, edGo]
theorem lastEnd_take (l : List Ed) (k : Nat) (hk : k < l.length) : lastEnd (l.take (k + 1)) = some (l[k].at_ + l[k].del) := by
  unfold lastEnd
  rw [List.take_succ_eq_append_getElem hk, List.getLast?_append]
  simp
/-- A right script, from a place on. -/
inductive Chain (n : Int) : Option Int → List Ed → Prop
  | nil (p) : Chain n p []
  | cons (p x r) : edOne n p x = 0 → Chain n (some (x.at_ + x.del)) r → Chain n p (x :: r)
theorem edGo_zero {n : Int} {l : List Ed} : ∀ {p : Option Int} {s : Int}, edGo n p s l = 0 ↔ Chain n p l ∧ s + grows l ≤ 200 := by
  induction l with
  | nil =>
    intro p s
    simp only [edGo, grows]
    constructor
    · intro h; exact ⟨.nil _, by split at h <;> omega⟩
    · rintro ⟨_, h⟩; rw [if_neg (by omega)]
  | cons x r ih =>
    intro p s
    simp only [edGo, grows]
    by_cases h : edOne n p x = 0
    · rw [if_pos h, ih]
      constructor
      · rintro ⟨a, b⟩; exact ⟨.cons _ _ _ h a, by omega⟩
      · rintro ⟨a, b⟩; cases a; exact ⟨by assumption, by omega⟩
    · rw [if_neg h]
      constructor
      · intro h'; exact absurd h' h
      · rintro ⟨a, b⟩; cases a; exact absurd (by assumption) h
theorem edErr_zero {n : Int} {l : List Ed} : edErr n l = 0 ↔ 0 ≤ n ∧ n ≤ 200 ∧ l.length ≤ 20 ∧ Chain n none l ∧ n + grows l ≤ 200 := by
  unfold edErr
  by_cases h1 : n < 0 ∨ 200 < n
  · rw [if_pos h1]
    constructor
    · intro h; cases h
    · rintro ⟨_, _, _⟩; omega
  · rw [if_neg h1]
    by_cases h2 : 20 < l.length
    · rw [if_pos h2]
      constructor
      · intro h; cases h
      · rintro ⟨_, _, _, _⟩; omega
    · rw [if_neg h2, edGo_zero]
      constructor
      · rintro ⟨a, b⟩; exact ⟨by omega, by omega, by omega, a, b⟩
      · rintro ⟨_, _, _, a, b⟩; exact ⟨a, b⟩
theorem edOne_zero {n : Int} {p : Option Int} {x : Ed} (h : edOne n p x = 0) : 0 ≤ x.at_ ∧ 0 ≤ x.del ∧ x.at_ ≤ n ∧ x.at_ + x.del ≤ n ∧ x.ins.length ≤ 40 ∧ ¬ (x.del = 0 ∧ x.ins.length = 0) ∧ ∀ e, p = some e → e < x.at_ := by
  unfold edOne at h
  by_cases h1 : x.at_ < 0 ∨ x.del < 0 ∨ n < x.at_ ∨ n < x.at_ + x.del
  · rw [if_pos h1] at h; cases h
  · rw [if_neg h1] at h
    by_cases h2 : 40 < x.ins.length
    · rw [if_pos h2] at h; cases h
    · rw [if_neg h2] at h
      by_cases h3 : x.del = 0 ∧ x.ins.length = 0
      · rw [if_pos h3] at h; cases h
      · rw [if_neg h3] at h
        by_cases h4 : ∃ e, p = some e ∧ x.at_ ≤ e
        · rw [if_pos h4] at h; cases h
        · refine ⟨by omega, by omega, by omega, by omega, by omega, h3, fun e he => ?_⟩
          exact Int.lt_of_not_ge fun hh => h4 ⟨e, he, hh⟩
theorem Chain.mem {n : Int} {p : Option Int} {l : List Ed} (h : Chain n p l) : ∀ x ∈ l, 0 ≤ x.at_ ∧ 0 ≤ x.del ∧ x.at_ + x.del ≤ n ∧ x.ins.length ≤ 40 ∧ ¬ (x.del = 0 ∧ x.ins.length = 0) ∧ ∀ e, p = some e → e < x.at_ := by
  induction h with
  | nil p => intro x hx; cases hx
  | cons p y r h0 h ih =>
    intro x hx
    have h1 := edOne_zero h0
    rcases List.mem_cons.1 hx with rfl | hx
    · exact ⟨h1.1, h1.2.1, h1.2.2.2.1, h1.2.2.2.2.1, h1.2.2.2.2.2.1, h1.2.2.2.2.2.2⟩
    · obtain ⟨a, b, c, d, e, f⟩ := ih x hx
      refine ⟨a, b, c, d, e, fun q hq => ?_⟩
      have := h1.2.2.2.2.2.2 q hq
      have := f _ rfl
      omega
theorem Chain.grows_le {n : Int} {p : Option Int} {l : List Ed} (h : Chain n p l) : - (n : Int) * l.length ≤ grows l ∧ grows l ≤ 40 * l.length := by
  induction h with
  | nil p => simp [grows]
  | cons p x r h0 h ih =>
    have h1 := edOne_zero h0
    simp only [grows, List.length_cons]
    have e : -n * ((r.length + 1 : Nat) : Int) = -n * r.length - n := by
      rw [Int.natCast_add, Int.mul_add]; simp; omega
    rw [e]
    have e2 : ((r.length + 1 : Nat) : Int) = (r.length : Int) + 1 := by omega
    constructor <;> omega
/-- A text, edited, from the place p on. -/
def edTo (s : List UInt8) : Nat → List Ed → List UInt8
  | p, [] => s.drop p
  | p, x :: r => (s.drop p).take (x.at_.toNat - p) ++ x.ins ++ edTo s (x.at_ + x.del).toNat r
/-- The last one first. -/
def edDone (s : List UInt8) : List Ed → List UInt8
  | [] => s
  | x :: r => (edDone s r).take x.at_.toNat ++ x.ins ++ (edDone s r).drop (x.at_ + x.del).toNat
def after (p : Nat) : Option Int → Prop
  | none => p = 0
  | some e => e = (p : Int)
theorem edDone_eq {n : Nat} {s : List UInt8} (hs : s.length = n) {l : List Ed} : ∀ {p : Option Int} {k : Nat}, Chain n p l → after k p → k ≤ n → edDone s l = s.take k ++ edTo s k l := by
  induction l with
  | nil => intro p k _ _ _; simp [edDone, edTo]
  | cons x r ih =>
    intro p k hc ha hk
    cases hc with
    | cons _ _ _ h0 h =>
      obtain ⟨h1, h2, h3, h4, h5, h6, h7⟩ := edOne_zero h0
      have hk2 : (k : Int) ≤ x.at_ := by
        cases p with
        | none => simp only [after] at ha; omega
        | some e => simp only [after] at ha; have := h7 e rfl; omega
      obtain ⟨a, ha'⟩ := Int.eq_ofNat_of_zero_le h1
      obtain ⟨d, hd'⟩ := Int.eq_ofNat_of_zero_le h2
      have e1 := ih (p := some (x.at_ + x.del)) (k := a + d) h (by simp only [after]; omega) (by omega)
      simp only [edDone, edTo]
      rw [e1, ha', hd']
      have t1 : ((a : Int) + (d : Int)).toNat = a + d := by omega
      have t2 : ((a : Int)).toNat = a := by omega
      rw [t1, t2]
      have l1 : (s.take (a + d)).length = a + d := by rw [List.length_take]; omega
      rw [List.take_append_of_le_length (by omega), List.drop_append_of_le_length (by omega), List.take_take, Nat.min_eq_left (by omega)]
      have e3 : s.take a = s.take k ++ (s.drop k).take (a - k) := by
        rw [← List.take_add]; congr 1; omega
      have e4 : (s.take (a + d)).drop (a + d) = [] := List.drop_of_length_le (by omega)
      rw [e3, e4]
      simp
theorem edDone_is {s : List UInt8} {l : List Ed} (h : edErr s.length l = 0) : edDone s l = edTo s 0 l := by
  obtain ⟨_, _, _, h, _⟩ := edErr_zero.1 h
  have := edDone_eq rfl h (k := 0) rfl (Nat.zero_le _)
  simpa using this
theorem edTo_length {n : Nat} {s : List UInt8} (hs : s.length = n) {l : List Ed} : ∀ {p : Option Int} {k : Nat}, Chain n p l → after k p → k ≤ n → ((edTo s k l).length : Int) = n - k + grows l := by
  induction l with
  | nil => intro p k _ _ _; simp [edTo, grows]; omega
  | cons x r ih =>
    intro p k hc ha hk
    cases hc with
    | cons _ _ _ h0 h =>
      obtain ⟨h1, h2, h3, h4, h5, h6, h7⟩ := edOne_zero h0
      have hk2 : (k : Int) ≤ x.at_ := by
        cases p with
        | none => simp only [after] at ha; omega
        | some e => simp only [after] at ha; have := h7 e rfl; omega
      have e1 := ih (p := some (x.at_ + x.del)) (k := (x.at_ + x.del).toNat) h (by simp only [after]; omega) (by omega)
      simp only [edTo, grows, List.length_append, List.length_take, List.length_drop]
      omega
end Go.Proofs.YtncakjchaniheaaDoor
namespace Go.Proofs.YtncakjchaniheaaDoor
open Go.RowKit
def Ed.cells (x : Ed) : List Value := [.int .i64 x.at_, .int .i64 x.del, .string (S x.ins)]
def edCells (l : List Ed) : List Value := l.flatMap Ed.cells
theorem flat_len {α : Type} {ec : α → List Value} {m : Nat} (hec : ∀ x, (ec x).length = m) (l : List α) : (l.flatMap ec).length = l.length * m := by
  induction l with
  | nil => simp
  | cons a l ih => rw [List.flatMap_cons, List.length_append, ih, hec, List.length_cons, Nat.add_mul, Nat.one_mul, Nat.add_comm]
theorem flat_get {α : Type} {ec : α → List Value} {m : Nat} (hec : ∀ x, (ec x).length = m) (l : List α) (k : Nat) (hk : k < l.length) (j : Nat) (hj : j < m) : (l.flatMap ec)[k * m + j]? = (ec (l[k]'hk))[j]? := by
  induction l generalizing k with
  | nil => simp at hk
  | cons a l ih =>
    rw [List.flatMap_cons]
    cases k with
    | zero => rw [List.getElem?_append_left (by rw [hec]; omega)]; simp
    | succ k =>
      have := ih k (by simpa using hk)
      rw [List.getElem?_append_right (by rw [hec, Nat.add_mul]; omega), hec, List.getElem_cons_succ, ← this, Nat.add_mul]
      congr 1; omega
/-- A record of a slice that reads. -/
theorem Rd.at_rec {α : Type} {ec : α → List Value} {m : Nat} (hec : ∀ x, (ec x).length = m) (hm : 0 < m) {w : World} {B n : Nat} {A : Option Addr} {l : List α} (h : Rd w B m A n (l.flatMap ec)) {k : Nat} (hk : k < n) :
    ∃ ad, ∃ hl : k < l.length, A = some ad ∧ ad.block < B ∧ ∀ j u, (ec l[k])[j]? = some u → w.cell? (ad.add (k * m + j)) = some u := by
  have hl : l.length = n := by
    have := h.1
    rw [flat_len hec] at this
    exact Nat.eq_of_mul_eq_mul_right hm this
  obtain ⟨ad, e, hb, hc⟩ := h.2 (by omega)
  refine ⟨ad, by omega, e, hb, fun j u hu => ?_⟩
  have hj : j < m := by rw [← hec (l[k]'(by omega))]; exact (List.getElem?_eq_some_iff.1 hu).1
  exact hc _ _ (by rw [flat_get hec l k (by omega) j hj]; exact hu)
theorem Rd.rec_len {α : Type} {ec : α → List Value} {m : Nat} (hec : ∀ x, (ec x).length = m) (hm : 0 < m) {w : World} {B n : Nat} {A : Option Addr} {l : List α} (h : Rd w B m A n (l.flatMap ec)) : l.length = n := by
  have := h.1
  rw [flat_len hec] at this
  exact Nat.eq_of_mul_eq_mul_right hm this
theorem ed_len (x : Ed) : x.cells.length = 3 := rfl
theorem Rd.at_ed {w : World} {B n : Nat} {A : Option Addr} {l : List Ed} (h : Rd w B 3 A n (edCells l)) {k : Nat} (hk : k < n) :
    ∃ ad, ∃ hl : k < l.length, A = some ad ∧ ad.block < B ∧ w.cell? (ad.add (k * 3)) = some (.int .i64 l[k].at_) ∧ w.cell? ⟨(ad.add (k * 3)).block, (ad.add (k * 3)).off + 1, none⟩ = some (.int .i64 l[k].del) ∧
      w.cell? ⟨(ad.add (k * 3)).block, (ad.add (k * 3)).off + 2, none⟩ = some (.string (S l[k].ins)) := by
  obtain ⟨ad, hl, e, hb, hc⟩ := Rd.at_rec ed_len (by omega) h hk
  refine ⟨ad, hl, e, hb, hc 0 _ rfl, ?_, ?_⟩
  · have h1 := hc 1 _ rfl
    rwa [← add_add] at h1
  · have h1 := hc 2 _ rfl
    rwa [← add_add] at h1
theorem isEmpty_size (l : List UInt8) : (S l).toList.isEmpty = decide (l.length = 0) := by
  have : (S l).toList = l := ByteArray.toList_eq _
  rw [this]; cases l <;> simp
/-- As the checks ask it. -/
def edAt (n : Int) (k : Nat) (e : Int) (x : Ed) : Int :=
  if x.at_ < 0 ∨ x.del < 0 ∨ n < x.at_ ∨ n < x.at_ + x.del then 1 else if 40 < x.ins.length then 2 else if x.del = 0 ∧ x.ins.length = 0 then 5 else if 0 < k ∧ x.at_ ≤ e then 6 else 0
/-- Where the loop of the checks stands. -/
structure EdAt (n : Int) (l : List Ed) (k : Nat) (e : Int) : Prop where
  le : k ≤ l.length
  e0 : 0 ≤ e
  e1 : e ≤ n
  go : edGo n none n l = edGo n (lastEnd (l.take k)) (n + grows (l.take k)) (l.drop k)
  last : lastEnd (l.take k) = if k = 0 then none else some e
  lo : -(200 * k : Int) ≤ grows (l.take k)
  hi : grows (l.take k) ≤ 40 * k
  chain : ∀ x ∈ l.take k, 0 ≤ x.del ∧ x.del ≤ 200 ∧ x.ins.length ≤ 40
theorem edAt_eq {n : Int} {l : List Ed} {k : Nat} {e : Int} (h : EdAt n l k e) (x : Ed) : edOne n (lastEnd (l.take k)) x = edAt n k e x := by
  unfold edOne edAt
  rw [h.last]
  have : (∃ e_1, (if k = 0 then none else some e) = some e_1 ∧ x.at_ ≤ e_1) ↔ (0 < k ∧ x.at_ ≤ e) := by
    by_cases hk : k = 0
    · simp [hk]
    · rw [if_neg hk]
      constructor
      · rintro ⟨_, h1, h2⟩; cases h1; exact ⟨by omega, h2⟩
      · rintro ⟨_, h2⟩; exact ⟨_, rfl, h2⟩
  simp only [this]
theorem EdAt.start {n : Int} (h : 0 ≤ n) (l : List Ed) : EdAt n l 0 0 := ⟨Nat.zero_le _, Int.le_refl _, h, by simp [lastEnd, grows], by simp [lastEnd], by simp [grows], by simp [grows], by simp⟩
theorem EdAt.step {n : Int} {l : List Ed} {k : Nat} {e : Int} (h : EdAt n l k e) (hn : n ≤ 200) (hk : k < l.length) (h0 : edAt n k e l[k] = 0) : EdAt n l (k + 1) (l[k].at_ + l[k].del) ∧ grows (l.take (k + 1)) = grows (l.take k) + (l[k].ins.length - l[k].del) := by
  have hg : grows (l.take (k + 1)) = grows (l.take k) + (l[k].ins.length - l[k].del) := by
    rw [List.take_succ_eq_append_getElem hk, grows_append]; simp [grows]
  have h1 := edAt_eq h l[k]
  rw [h0] at h1
  obtain ⟨a, b, c, d, f, _⟩ := edOne_zero h1
  have hlo := h.lo
  have hhi := h.hi
  refine ⟨⟨hk, by omega, d, edGo_take n l k hk h.go h1, ?_, by rw [hg]; omega, by rw [hg]; omega, ?_⟩, hg⟩
  · rw [lastEnd_take l k hk, if_neg (by omega)]
  · intro x hx
    rw [List.take_succ_eq_append_getElem hk] at hx
    rcases List.mem_append.1 hx with hx | hx
    · exact h.chain x hx
    · simp only [List.mem_singleton] at hx; subst hx; omega
theorem EdAt.bad {n : Int} {l : List Ed} {k : Nat} {e : Int} (h : EdAt n l k e) (hn0 : 0 ≤ n) (hn : n ≤ 200) (hl : l.length ≤ 20) (hk : k < l.length) {c : Int} (hc : edAt n k e l[k] = c) (hc0 : c ≠ 0) : edErr n l = c := by
  have h1 := edAt_eq h l[k]
  unfold edErr
  rw [if_neg (by omega), if_neg (by omega), edGo_bad n l k hk h.go (by rw [h1, hc]; exact hc0), h1, hc]
theorem EdAt.fin {n : Int} {l : List Ed} {k : Nat} {e : Int} (h : EdAt n l k e) (hn0 : 0 ≤ n) (hn : n ≤ 200) (hl : l.length ≤ 20) (hk : ¬ k < l.length) : edErr n l = if 200 < n + grows (l.take k) then 11 else 0 := by
  obtain rfl : k = l.length := by have := h.le; omega
  unfold edErr
  rw [if_neg (by omega), if_neg (by omega), edGo_end n l h.go, List.take_length]
set_option maxRecDepth 100000 in
set_option maxHeartbeats 2000000 in
theorem edCheck_any (n : Int) (l : List Ed) (A : Option Addr) (m c B : Nat) (w : World) (hr : Rd w B 3 A m (edCells l)) (hB : B ≤ w.heap.size) (hm : m ≤ 9223372036854775807) :
    Calls Tryd.prog 34 #[.int .i64 n, .slice A m c] w fun e w' => e = .returned (.int .i64 (edErr n l)) ∧ Below w.heap.size w w' := by
  have hlen := Rd.rec_len ed_len (by omega) hr
  by_cases hn : n < 0 ∨ 200 < n
  · have HE : Hid (edErr n l = 1) := by unfold Hid edErr; rw [if_pos hn]
    have HN := Lib.hid hn; clear hn hr
    go_enter Tryd.func34, Tryd.ntmps34
    go_wp2
    all_goals first
      | (go_ret; exact ⟨ret_int HE.out.symm, Below.refl _ _⟩)
      | (exfalso; have := HN.out; omega)
  have hn0 : 0 ≤ n := by omega
  have hn1 : n ≤ 200 := by omega
  have HN := Lib.hid hn; clear hn
  by_cases h20 : 20 < m
  · have HE : Hid (edErr n l = 2) := by unfold Hid edErr; rw [if_neg HN.out, if_pos (by omega)]
    clear hr
    go_enter Tryd.func34, Tryd.ntmps34
    go_wp2
    go_ret
    exact ⟨ret_int HE.out.symm, Below.refl _ _⟩
  have HR := Lib.hid hr; clear hr
  have HL := Lib.hid hlen; clear hlen
  go_enter Tryd.func34, Tryd.ntmps34
  go_wp2
  go_loopw [5, 6, 21] (fun e s i wr => ∃ (k : Nat) (e' : Int), EdAt n l k e' ∧ i = .int .i64 k ∧ e = .int .i64 e' ∧ s = .int .i64 (n + grows (l.take k)) ∧ Below w.heap.size w wr)
    (fun _ _ i _ => m - (intOf i).toNat)
  case atStart => exact ⟨0, 0, EdAt.start hn0 l, rfl, rfl, by simp [grows], Below.refl _ _⟩
  case round =>
    obtain ⟨k, e', HA, rfl, rfl, rfl, hb⟩ := hrel
    have hk := HA.le
    rw [HL.out] at hk
    have hbs := hb.size
    have he0 := HA.e0
    have he1 := HA.e1
    have glo := HA.lo
    have ghi := HA.hi
    by_cases hlt : k < m
    · obtain ⟨ad, hl, rfl, hab, c0, c1, c2⟩ := (HR.out.below (hb.mono hB)).at_ed hlt
      have HSt : Hid (edAt n k e' l[k] = 0 → EdAt n l (k + 1) (l[k].at_ + l[k].del) ∧ grows (l.take (k + 1)) = grows (l.take k) + (l[k].ins.length - l[k].del)) := HA.step hn1 hl
      have HBd : Hid (∀ c, edAt n k e' l[k] = c → c ≠ 0 → edErr n l = c) := fun c => HA.bad hn0 hn1 (by rw [HL.out]; omega) hl
      have hz : (S l[k].ins).size = l[k].ins.length := S_size _
      have HZ := Lib.hid hz; clear hz
      generalize l[k] = x at *
      generalize grows (l.take k) = g at *
      obtain ⟨xa, xd, xi⟩ := x
      simp only at c0 c1 c2 HSt HBd HZ
      clear HA
      have HZ1 : Hid ((S xi).toList.isEmpty = decide (xi.length = 0)) := isEmpty_size xi
      go_wp2
      all_goals first
        | (go_ret
           refine ⟨ret_int (HBd.out _ ?_ (by decide)).symm, (by repeat (first | exact Below.refl _ _ | assumption | refine Below.alloc ?_ (by first | exact Nat.le_refl _ | assumption | omega | (simp <;> omega)) _ | refine Below.setCell ?_ (by first | exact Nat.le_refl _ | assumption | omega | (simp <;> omega)) _ | refine Below.drew ?_ | refine below_drewN ?_ _))⟩
           go_light
           have hz := HZ.out; have hz1 := HZ1.out
           clear HBd HSt HZ HZ1
           unfold edAt
           grind)
        | (go_roundw
           case rel =>
             go_light
             have hz := HZ.out; have hz1 := HZ1.out
             have h0 : edAt n k e' ⟨xa, xd, xi⟩ = 0 := by
               clear HBd HSt HZ HZ1
               unfold edAt
               grind
             obtain ⟨h1, h2⟩ := HSt.out h0
             exact ⟨k + 1, _, h1, by go_num, by first | rfl | (congr 1; omega), by rw [h2, hz]; congr 1; omega, (by repeat (first | exact Below.refl _ _ | assumption | refine Below.alloc ?_ (by first | exact Nat.le_refl _ | assumption | omega | (simp <;> omega)) _ | refine Below.setCell ?_ (by first | exact Nat.le_refl _ | assumption | omega | (simp <;> omega)) _ | refine Below.drew ?_ | refine below_drewN ?_ _))⟩
           case measure => simp [intOf]; omega)
    · have HF := Lib.hid (HA.fin hn0 hn1 (by rw [HL.out]; omega) (by rw [HL.out]; omega))
      clear HA
      go_wp2
      all_goals go_ret
      all_goals refine ⟨ret_int ?_, hb⟩
      all_goals (rw [HF.out]; split <;> first | rfl | omega)
end Go.Proofs.YtncakjchaniheaaDoor
namespace Go.Proofs.YtncakjchaniheaaDoor
open Go.RowKit
/-- A pile as it lies in memory: its weight, its row, its numbers. -/
structure Pm where
  wt : Nat
  A : Option Addr
  c : Nat
  mem : List Nat
def Pm.cells (x : Pm) : List Value := [.int .i64 (x.wt : Int), .slice x.A x.mem.length x.c]
def pmCells (l : List Pm) : List Value := l.flatMap Pm.cells
def Pm.pile (x : Pm) : Pile := (x.wt, x.mem)
theorem pm_len (x : Pm) : x.cells.length = 2 := rfl
theorem pmCells_len (l : List Pm) : (pmCells l).length = l.length * 2 := flat_len pm_len l
theorem pmCells_append (a b : List Pm) : pmCells (a ++ b) = pmCells a ++ pmCells b := by simp [pmCells]
def insM (x : Pm) : List Pm → List Pm
  | [] => [x]
  | y :: s => if y.wt ≤ x.wt then y :: insM x s else x :: y :: s
def isrtM (l : List Pm) : List Pm := l.foldl (fun s x => insM x s) []
theorem insM_pile (x : Pm) : ∀ s, (insM x s).map Pm.pile = insP x.pile (s.map Pm.pile) := by
  intro s
  induction s with
  | nil => rfl
  | cons y s ih =>
    rw [List.map_cons]
    unfold insM insP
    show List.map Pm.pile (if y.wt ≤ x.wt then _ else _) = if y.wt ≤ x.wt then _ else _
    split
    · rw [List.map_cons, ih]
    · rfl
theorem isrtM_pile (l : List Pm) : (isrtM l).map Pm.pile = isrt (l.map Pm.pile) := by
  have key : ∀ (m s : List Pm), (m.foldl (fun s x => insM x s) s).map Pm.pile = (m.map Pm.pile).foldl (fun s x => insP x s) (s.map Pm.pile) := by
    intro m
    induction m with
    | nil => intro s; rfl
    | cons x m ih => intro s; rw [List.foldl_cons, ih, List.map_cons, List.foldl_cons, insM_pile]
  exact key l []
theorem isrtM_snoc (l : List Pm) (x : Pm) : isrtM (l ++ [x]) = insM x (isrtM l) := by
  unfold isrtM; rw [List.foldl_append]; rfl
theorem insM_perm (x : Pm) : ∀ s, (insM x s).Perm (x :: s) := by
  intro s
  induction s with
  | nil => exact List.Perm.refl _
  | cons y s ih =>
    unfold insM
    split
    · exact ((List.Perm.cons y ih).trans (List.Perm.swap x y s))
    · exact List.Perm.refl _
theorem isrtM_perm (l : List Pm) : (isrtM l).Perm l := by
  have key : ∀ (m s : List Pm), (m.foldl (fun s x => insM x s) s).Perm (s ++ m) := by
    intro m
    induction m with
    | nil => intro s; simp
    | cons x m ih =>
      intro s
      refine (ih (insM x s)).trans ?_
      exact (List.Perm.append_right m (insM_perm x s)).trans List.perm_middle.symm
  have := key l []
  rwa [List.nil_append] at this
theorem isrtM_len (l : List Pm) : (isrtM l).length = l.length := (isrtM_perm l).length_eq
def UpM (s : List Pm) : Prop := s.Pairwise fun x y => x.wt ≤ y.wt
theorem isrtM_up (l : List Pm) : UpM (isrtM l) := by
  have h : List.Pairwise (fun (x y : Pile) => x.1 ≤ y.1) (isrt (l.map Pm.pile)) := isrt_up (l.map Pm.pile)
  rw [← isrtM_pile] at h
  exact (List.pairwise_map (f := Pm.pile)).1 h
/-- Where the inner loop stops: all behind weigh more, the one ahead no more: the new one is in its place. -/
theorem insM_at {x : Pm} : ∀ {s : List Pm} {j : Nat}, UpM s → j ≤ s.length → (∀ y ∈ s.drop j, x.wt < y.wt) → (0 < j → ∀ h2 : j - 1 < s.length, s[j - 1].wt ≤ x.wt) → insM x s = s.take j ++ x :: s.drop j := by
  intro s
  induction s with
  | nil =>
    intro j _ hj _ _
    obtain rfl : j = 0 := by simpa using hj
    rfl
  | cons y s ih =>
    intro j hu hj hb ha
    obtain ⟨h1, h2⟩ := List.pairwise_cons.1 hu
    cases j with
    | zero =>
      have := hb y List.mem_cons_self
      unfold insM
      rw [if_neg (by omega)]; rfl
    | succ j =>
      have hyx : y.wt ≤ x.wt := by
        have hj' : j ≤ s.length := by simpa using hj
        have h3 := ha (Nat.succ_pos j) (by rw [List.length_cons]; omega)
        cases j with
        | zero => exact h3
        | succ j =>
          have h4 : j < s.length := by simp at hj; omega
          have h5 : (y :: s)[j + 1 + 1 - 1]'(by simp; omega) = s[j] := rfl
          rw [h5] at h3
          exact Nat.le_trans (h1 s[j] (List.getElem_mem h4)) h3
      unfold insM
      rw [if_pos hyx, List.take_succ_cons, List.drop_succ_cons, List.cons_append]
      congr 1
      refine ih h2 (by simpa using hj) (fun z hz => hb z (by rw [List.drop_succ_cons]; exact hz)) (fun h0 hl => ?_)
      have h3 := ha (Nat.succ_pos j) (by simp; omega)
      obtain ⟨i, rfl⟩ : ∃ i, j = i + 1 := ⟨j - 1, by omega⟩
      exact h3
/-- The row while x is on its way down: the part ahead in order, x at j. -/
def mid (s : List Pm) (x : Pm) (j : Nat) : List Pm := s.take j ++ x :: s.drop j
theorem mid_len {s : List Pm} {x : Pm} {j : Nat} (h : j ≤ s.length) : (mid s x j).length = s.length + 1 := by
  unfold mid; rw [List.length_append, List.length_cons, List.length_take, List.length_drop]; omega
theorem mid_end (s : List Pm) (x : Pm) : mid s x s.length = s ++ [x] := by
  unfold mid; rw [List.take_length, List.drop_length]
theorem mid_at {s : List Pm} {x : Pm} {j : Nat} (h : j ≤ s.length) : (mid s x j)[j]? = some x := by
  unfold mid
  rw [List.getElem?_append_right (by rw [List.length_take]; omega), List.length_take, Nat.min_eq_left h, Nat.sub_self]; rfl
theorem mid_ahead {s : List Pm} {x : Pm} {j : Nat} (h : j + 1 ≤ s.length) : (mid s x (j + 1))[j]? = s[j]? := by
  unfold mid
  rw [List.getElem?_append_left (by rw [List.length_take]; omega), List.getElem?_take, if_pos (by omega)]
theorem mid_swap {s : List Pm} {x : Pm} {j : Nat} (h : j < s.length) : ((mid s x (j + 1)).set (j + 1) s[j]).set j x = mid s x j := by
  apply List.ext_getElem?
  intro i
  have hl1 := mid_len (s := s) (x := x) (j := j + 1) (by omega)
  rw [List.getElem?_set, List.getElem?_set, List.length_set, hl1]
  by_cases e1 : j = i
  · subst e1
    rw [if_pos rfl, if_pos (by omega), mid_at (by omega)]
  · rw [if_neg e1]
    by_cases e2 : j + 1 = i
    · subst e2
      rw [if_pos rfl, if_pos (by omega)]
      unfold mid
      rw [List.getElem?_append_right (by rw [List.length_take]; omega), List.length_take, Nat.min_eq_left (by omega), show j + 1 - j = 1 by omega, List.getElem?_cons_succ, List.getElem?_drop, Nat.add_zero, List.getElem?_eq_getElem h]
    · rw [if_neg e2]
      unfold mid
      rcases Nat.lt_or_ge i j with h3 | h3
      · rw [List.getElem?_append_left (by rw [List.length_take]; omega), List.getElem?_append_left (by rw [List.length_take]; omega), List.getElem?_take, List.getElem?_take, if_pos (by omega), if_pos h3]
      · rw [List.getElem?_append_right (by rw [List.length_take]; omega), List.getElem?_append_right (by rw [List.length_take]; omega), List.length_take, List.length_take, Nat.min_eq_left (by omega), Nat.min_eq_left (by omega)]
        obtain ⟨q, hq⟩ : ∃ q, i = j + 2 + q := ⟨i - j - 2, by omega⟩
        subst hq
        rw [show j + 2 + q - (j + 1) = q + 1 by omega, show j + 2 + q - j = (q + 1) + 1 by omega, List.getElem?_cons_succ, List.getElem?_cons_succ, List.getElem?_drop, List.getElem?_drop]
        congr 1; omega
theorem own_set {w : World} {base : Nat} {e : TypeId} {size n c : Nat} {ad : Addr} {xs : List Value} (h : OwnO w base e size (.slice (some ad) n c) n xs) {j : Nat} (hj : j < n * size) (u : Value) :
    OwnO (w.setCell (ad.add j) u) base e size (.slice (some ad) n c) n (xs.set j u) ∧ w.frozen? (ad.add j) = false := by
  rcases h.2 with ⟨h1, _⟩ | ⟨g, o, cap, cur, h1, h2, h3, h4, h5, h6, h7⟩
  · cases h1
  · injection h1 with h1 _ h1c
    injection h1 with h1
    subst h1; subst h1c
    have hadd : (⟨g, o, none⟩ : Addr).add j = ⟨g, o + j, none⟩ := by unfold Addr.add; split <;> simp_all
    rw [hadd]
    refine ⟨⟨by rw [List.length_set]; exact h.1, .inr ⟨g, o, c, cur.setIfInBounds (o + j) u, rfl, h2, by simp [World.setCell, Array.getElem?_modify, h3], h4, h5, by simpa using h6, ?_⟩⟩, by simp [World.frozen?, h3]⟩
    rw [Array.toList_setIfInBounds, ← h7]
    apply List.ext_getElem?
    intro i
    rw [List.getElem?_take, List.getElem?_drop, List.getElem?_set, List.getElem?_set, List.getElem?_take, List.getElem?_drop, List.length_take, List.length_drop]
    have hcl : cur.toList.length = cur.size := by simp
    have hnc : n * size ≤ c * size := Nat.mul_le_mul_right _ h4
    by_cases e : j = i
    · subst e
      rw [if_pos rfl, if_pos hj, if_pos rfl, if_pos (by omega), if_pos (by omega)]
    · by_cases hi : i < n * size
      · rw [if_pos hi, if_neg (show ¬ o + j = o + i by omega), if_neg e, if_pos hi]
      · rw [if_neg hi, if_neg e, if_neg hi]
theorem own_addr {w : World} {base : Nat} {e : TypeId} {size n c : Nat} {ad : Addr} {xs : List Value} (h : OwnO w base e size (.slice (some ad) n c) n xs) : ∀ i j, i ≠ j → ad.add i ≠ ad.add j := by
  rcases h.2 with ⟨h1, _⟩ | ⟨g, o, cap, cur, h1, _⟩
  · cases h1
  · injection h1 with h1
    injection h1 with h1
    subst h1
    intro i j hij he
    have hadd : ∀ j, (⟨g, o, none⟩ : Addr).add j = ⟨g, o + j, none⟩ := fun j => by unfold Addr.add; split <;> simp_all
    rw [hadd, hadd] at he
    injection he with _ he
    omega
theorem pmCells_set {l : List Pm} {j : Nat} (h : j < l.length) (x : Pm) : ((pmCells l).set (j * 2) (.int .i64 (x.wt : Int))).set (j * 2 + 1) (.slice x.A x.mem.length x.c) = pmCells (l.set j x) := by
  induction l generalizing j with
  | nil => simp at h
  | cons y l ih =>
    cases j with
    | zero => rfl
    | succ j =>
      rw [show (j + 1) * 2 = j * 2 + 1 + 1 by omega, List.set_cons_succ]
      show (y.cells ++ pmCells l |>.set _ _ |>.set _ _) = y.cells ++ pmCells (l.set j x)
      rw [← ih (by simpa using h)]
      rfl
end Go.Proofs.YtncakjchaniheaaDoor
