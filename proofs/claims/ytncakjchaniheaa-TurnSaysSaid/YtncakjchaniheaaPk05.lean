/- Scripts of edits, their errors, and what they make of a text. No program in sight. edit.Check, the reference's EditsErr and Grows. Words of bits in order, as plain lists. No program in sight. -/
import Derived.Test.YtncakjchaniheaaPk01
import Derived.Test.YtncakjchaniheaaPk02
namespace Go.Proofs.Ytncakjchaniheaa
structure Ed where
  at_ : Int
  del : Int
  ins : List UInt8
deriving DecidableEq, Inhabited
/-- One edit behind another one that ends at p. -/
def edOne (n : Int) (p : Option Int) (x : Ed) : Int :=
  if x.at_ < 0 ∨ x.del < 0 ∨ n < x.at_ ∨ n < x.at_ + x.del then 1 else if 40 < x.ins.length then 2 else if x.del = 0 ∧ x.ins.length = 0 then 5 else if ∃ e, p = some e ∧ x.at_ ≤ e then 6 else 0
def edGo (n : Int) : Option Int → Int → List Ed → Int
  | _, size, [] => if 200 < size then 11 else 0
  | p, size, x :: r => if edOne n p x = 0 then edGo n (some (x.at_ + x.del)) (size + (x.ins.length - x.del)) r else edOne n p x
/-- The error of a script. -/
def edErr (n : Int) (l : List Ed) : Int := if n < 0 ∨ 200 < n then 1 else if 20 < l.length then 2 else edGo n none n l
def grows : List Ed → Int
  | [] => 0
  | x :: r => (x.ins.length - x.del) + grows r
theorem grows_append (a b : List Ed) : grows (a ++ b) = grows a + grows b := by
  induction a with
  | nil => simp [grows]
  | cons x a ih => simp [grows, ih]; omega
def lastEnd (l : List Ed) : Option Int := l.getLast?.map fun x => x.at_ + x.del
/-- Where the checks stand. -/
theorem edGo_take (n : Int) (l : List Ed) (k : Nat) (hk : k < l.length) (h : edGo n none n l = edGo n (lastEnd (l.take k)) (n + grows (l.take k)) (l.drop k)) (h0 : edOne n (lastEnd (l.take k)) l[k] = 0) :
    edGo n none n l = edGo n (lastEnd (l.take (k + 1))) (n + grows (l.take (k + 1))) (l.drop (k + 1)) := by
  rw [h, List.drop_eq_getElem_cons hk, edGo, if_pos h0, List.take_succ_eq_append_getElem hk, grows_append]
  simp only [grows, lastEnd, List.getLast?_append, List.getLast?_singleton, Option.some_or, Option.map_some]
  congr 1; omega
theorem edGo_bad (n : Int) (l : List Ed) (k : Nat) (hk : k < l.length) (h : edGo n none n l = edGo n (lastEnd (l.take k)) (n + grows (l.take k)) (l.drop k)) (h0 : edOne n (lastEnd (l.take k)) l[k] ≠ 0) :
    edGo n none n l = edOne n (lastEnd (l.take k)) l[k] := by
  rw [h, List.drop_eq_getElem_cons hk, edGo, if_neg h0]
theorem edGo_end (n : Int) (l : List Ed) (h : edGo n none n l = edGo n (lastEnd (l.take l.length)) (n + grows (l.take l.length)) (l.drop l.length)) : edGo n none n l = if 200 < n + grows l then 11 else 0 := by
  rw [h, List.drop_length, List.take_length, edGo]
theorem lastEnd_take (l : List Ed) (k : Nat) (hk : k < l.length) : lastEnd (l.take (k + 1)) = some (l[k].at_ + l[k].del) := by
  unfold lastEnd
  rw [List.take_succ_eq_append_getElem hk, List.getLast?_append]
  simp
/-- A right script, from a place on. -/
inductive Chain (n : Int) : Option Int → List Ed → Prop
  | nil (p) : Chain n p []
  | cons (p x r) : edOne n p x = 0 → Chain n (some (x.at_ + x.del)) r → Chain n p (x :: r)
theorem edGo_zero {n : Int} {l : List Ed} : ∀ {p : Option Int} {s : Int}, edGo n p s l = 0 ↔ Chain n p l ∧ s + grows l ≤ 200 := by
  induction l with
  | nil =>
    intro p s
    simp only [edGo, grows]
    constructor
    · intro h; exact ⟨.nil _, by split at h <;> omega⟩
    · rintro ⟨_, h⟩; rw [if_neg (by omega)]
  | cons x r ih =>
    intro p s
    simp only [edGo, grows]
    by_cases h : edOne n p x = 0
    · rw [if_pos h, ih]
      constructor
      · rintro ⟨a, b⟩; exact ⟨.cons _ _ _ h a, by omega⟩
      · rintro ⟨a, b⟩; cases a; exact ⟨by assumption, by omega⟩
    · rw [if_neg h]
      constructor
      · intro h'; exact absurd h' h
      · rintro ⟨a, b⟩; cases a; exact absurd (by assumption) h
theorem edErr_zero {n : Int} {l : List Ed} : edErr n l = 0 ↔ 0 ≤ n ∧ n ≤ 200 ∧ l.length ≤ 20 ∧ Chain n none l ∧ n + grows l ≤ 200 := by
  unfold edErr
  by_cases h1 : n < 0 ∨ 200 < n
  · rw [if_pos h1]
    constructor
    · intro h; cases h
    · rintro ⟨_, _, _⟩; omega
  · rw [if_neg h1]
    by_cases h2 : 20 < l.length
    · rw [if_pos h2]
      constructor
      · intro h; cases h
      · rintro ⟨_, _, _, _⟩; omega
    · rw [if_neg h2, edGo_zero]
      constructor
      · rintro ⟨a, b⟩; exact ⟨by omega, by omega, by omega, a, b⟩
      · rintro ⟨_, _, _, a, b⟩; exact ⟨a, b⟩
theorem edOne_zero {n : Int} {p : Option Int} {x : Ed} (h : edOne n p x = 0) : 0 ≤ x.at_ ∧ 0 ≤ x.del ∧ x.at_ ≤ n ∧ x.at_ + x.del ≤ n ∧ x.ins.length ≤ 40 ∧ ¬ (x.del = 0 ∧ x.ins.length = 0) ∧ ∀ e, p = some e → e < x.at_ := by
  unfold edOne at h
  by_cases h1 : x.at_ < 0 ∨ x.del < 0 ∨ n < x.at_ ∨ n < x.at_ + x.del
  · rw [if_pos h1] at h; cases h
  · rw [if_neg h1] at h
    by_cases h2 : 40 < x.ins.length
    · rw [if_pos h2] at h; cases h
    · rw [if_neg h2] at h
      by_cases h3 : x.del = 0 ∧ x.ins.length = 0
      · rw [if_pos h3] at h; cases h
      · rw [if_neg h3] at h
        by_cases h4 : ∃ e, p = some e ∧ x.at_ ≤ e
        · rw [if_pos h4] at h; cases h
        · refine ⟨by omega, by omega, by omega, by omega, by omega, h3, fun e he => ?_⟩
          exact Int.lt_of_not_ge fun hh => h4 ⟨e, he, hh⟩
theorem Chain.mem {n : Int} {p : Option Int} {l : List Ed} (h : Chain n p l) : ∀ x ∈ l, 0 ≤ x.at_ ∧ 0 ≤ x.del ∧ x.at_ + x.del ≤ n ∧ x.ins.length ≤ 40 ∧ ¬ (x.del = 0 ∧ x.ins.length = 0) ∧ ∀ e, p = some e → e < x.at_ := by
  induction h with
  | nil p => intro x hx; cases hx
  | cons p y r h0 h ih =>
    intro x hx
    have h1 := edOne_zero h0
    rcases List.mem_cons.1 hx with rfl | hx
    · exact ⟨h1.1, h1.2.1, h1.2.2.2.1, h1.2.2.2.2.1, h1.2.2.2.2.2.1, h1.2.2.2.2.2.2⟩
    · obtain ⟨a, b, c, d, e, f⟩ := ih x hx
      refine ⟨a, b, c, d, e, fun q hq => ?_⟩
      have := h1.2.2.2.2.2.2 q hq
      have := f _ rfl
      omega
theorem Chain.grows_le {n : Int} {p : Option Int} {l : List Ed} (h : Chain n p l) : - (n : Int) * l.length ≤ grows l ∧ grows l ≤ 40 * l.length := by
  induction h with
  | nil p => simp [grows]
  | cons p x r h0 h ih =>
    have h1 := edOne_zero h0
    simp only [grows, List.length_cons]
    have e : -n * ((r.length + 1 : Nat) : Int) = -n * r.length - n := by
      rw [Int.natCast_add, Int.mul_add]; simp; omega
    rw [e]
    have e2 : ((r.length + 1 : Nat) : Int) = (r.length : Int) + 1 := by omega
    constructor <;> omega
/-- A text, edited, from the place p on. -/
def edTo (s : List UInt8) : Nat → List Ed → List UInt8
  | p, [] => s.drop p
  | p, x :: r => (s.drop p).take (x.at_.toNat - p) ++ x.ins ++ edTo s (x.at_ + x.del).toNat r
/-- The last one first. -/
def edDone (s : List UInt8) : List Ed → List UInt8
  | [] => s
  | x :: r => (edDone s r).take x.at_.toNat ++ x.ins ++ (edDone s r).drop (x.at_ + x.del).toNat
def after (p : Nat) : Option Int → Prop
  | none => p = 0
  | some e => e = (p : Int)
theorem edDone_eq {n : Nat} {s : List UInt8} (hs : s.length = n) {l : List Ed} : ∀ {p : Option Int} {k : Nat}, Chain n p l → after k p → k ≤ n → edDone s l = s.take k ++ edTo s k l := by
  induction l with
  | nil => intro p k _ _ _; simp [edDone, edTo]
  | cons x r ih =>
    intro p k hc ha hk
    cases hc with
    | cons _ _ _ h0 h =>
      obtain ⟨h1, h2, h3, h4, h5, h6, h7⟩ := edOne_zero h0
      have hk2 : (k : Int) ≤ x.at_ := by
        cases p with
        | none => simp only [after] at ha; omega
        | some e => simp only [after] at ha; have := h7 e rfl; omega
      obtain ⟨a, ha'⟩ := Int.eq_ofNat_of_zero_le h1
      obtain ⟨d, hd'⟩ := Int.eq_ofNat_of_zero_le h2
      have e1 := ih (p := some (x.at_ + x.del)) (k := a + d) h (by simp only [after]; omega) (by omega)
      simp only [edDone, edTo]
      rw [e1, ha', hd']
      have t1 : ((a : Int) + (d : Int)).toNat = a + d := by omega
      have t2 : ((a : Int)).toNat = a := by omega
      rw [t1, t2]
      have l1 : (s.take (a + d)).length = a + d := by rw [List.length_take]; omega
      rw [List.take_append_of_le_length (by omega), List.drop_append_of_le_length (by omega), List.take_take, Nat.min_eq_left (by omega)]
      have e3 : s.take a = s.take k ++ (s.drop k).take (a - k) := by
        rw [← List.take_add]; congr 1; omega
      have e4 : (s.take (a + d)).drop (a + d) = [] := List.drop_of_length_le (by omega)
      rw [e3, e4]
      simp
theorem edDone_is {s : List UInt8} {l : List Ed} (h : edErr s.length l = 0) : edDone s l = edTo s 0 l := by
  obtain ⟨_, _, _, h, _⟩ := edErr_zero.1 h
  have := edDone_eq rfl h (k := 0) rfl (Nat.zero_le _)
  simpa using this
theorem edTo_length {n : Nat} {s : List UInt8} (hs : s.length = n) {l : List Ed} : ∀ {p : Option Int} {k : Nat}, Chain n p l → after k p → k ≤ n → ((edTo s k l).length : Int) = n - k + grows l := by
  induction l with
  | nil => intro p k _ _ _; simp [edTo, grows]; omega
  | cons x r ih =>
    intro p k hc ha hk
    cases hc with
    | cons _ _ _ h0 h =>
      obtain ⟨h1, h2, h3, h4, h5, h6, h7⟩ := edOne_zero h0
      have hk2 : (k : Int) ≤ x.at_ := by
        cases p with
        | none => simp only [after] at ha; omega
        | some e => simp only [after] at ha; have := h7 e rfl; omega
      have e1 := ih (p := some (x.at_ + x.del)) (k := (x.at_ + x.del).toNat) h (by simp only [after]; omega) (by omega)
      simp only [edTo, grows, List.length_append, List.length_take, List.length_drop]
      omega
end Go.Proofs.Ytncakjchaniheaa
namespace Go.Proofs.Ytncakjchaniheaa
open Go.RowKit
def Ed.cells (x : Ed) : List Value := [.int .i64 x.at_, .int .i64 x.del, .string (S x.ins)]
def edCells (l : List Ed) : List Value := l.flatMap Ed.cells
theorem flat_len {α : Type} {ec : α → List Value} {m : Nat} (hec : ∀ x, (ec x).length = m) (l : List α) : (l.flatMap ec).length = l.length * m := by
  induction l with
  | nil => simp
  | cons a l ih => rw [List.flatMap_cons, List.length_append, ih, hec, List.length_cons, Nat.add_mul, Nat.one_mul, Nat.add_comm]
theorem flat_get {α : Type} {ec : α → List Value} {m : Nat} (hec : ∀ x, (ec x).length = m) (l : List α) (k : Nat) (hk : k < l.length) (j : Nat) (hj : j < m) : (l.flatMap ec)[k * m + j]? = (ec (l[k]'hk))[j]? := by
  induction l generalizing k with
  | nil => simp at hk
  | cons a l ih =>
    rw [List.flatMap_cons]
    cases k with
    | zero => rw [List.getElem?_append_left (by rw [hec]; omega)]; simp
    | succ k =>
      have := ih k (by simpa using hk)
      rw [List.getElem?_append_right (by rw [hec, Nat.add_mul]; omega), hec, List.getElem_cons_succ, ← this, Nat.add_mul]
      congr 1; omega
/-- A record of a slice that reads. -/
theorem Rd.at_rec {α : Type} {ec : α → List Value} {m : Nat} (hec : ∀ x, (ec x).length = m) (hm : 0 < m) {w : World} {B n : Nat} {A : Option Addr} {l : List α} (h : Rd w B m A n (l.flatMap ec)) {k : Nat} (hk : k < n) :
    ∃ ad, ∃ hl : k < l.length, A = some ad ∧ ad.block < B ∧ ∀ j u, (ec l[k])[j]? = some u → w.cell? (ad.add (k * m + j)) = some u := by
  have hl : l.length = n := by
    have := h.1
    rw [flat_len hec] at this
    exact Nat.eq_of_mul_eq_mul_right hm this
  obtain ⟨ad, e, hb, hc⟩ := h.2 (by omega)
  refine ⟨ad, by omega, e, hb, fun j u hu => ?_⟩
  have hj : j < m := by rw [← hec (l[k]'(by omega))]; exact (List.getElem?_eq_some_iff.1 hu).1
  exact hc _ _ (by rw [flat_get hec l k (by omega) j hj]; exact hu)
theorem Rd.rec_len {α : Type} {ec : α → List Value} {m : Nat} (hec : ∀ x, (ec x).length = m) (hm : 0 < m) {w : World} {B n : Nat} {A : Option Addr} {l : List α} (h : Rd w B m A n (l.flatMap ec)) : l.length = n := by
  have := h.1
  rw [flat_len hec] at this
  exact Nat.eq_of_mul_eq_mul_right hm this
theorem ed_len (x : Ed) : x.cells.length = 3 := rfl
theorem Rd.at_ed {w : World} {B n : Nat} {A : Option Addr} {l : List Ed} (h : Rd w B 3 A n (edCells l)) {k : Nat} (hk : k < n) :
    ∃ ad, ∃ hl : k < l.length, A = some ad ∧ ad.block < B ∧ w.cell? (ad.add (k * 3)) = some (.int .i64 l[k].at_) ∧ w.cell? ⟨(ad.add (k * 3)).block, (ad.add (k * 3)).off + 1, none⟩ = some (.int .i64 l[k].del) ∧
      w.cell? ⟨(ad.add (k * 3)).block, (ad.add (k * 3)).off + 2, none⟩ = some (.string (S l[k].ins)) := by
  obtain ⟨ad, hl, e, hb, hc⟩ := Rd.at_rec ed_len (by omega) h hk
  refine ⟨ad, hl, e, hb, hc 0 _ rfl, ?_, ?_⟩
  · have h1 := hc 1 _ rfl
    rwa [← add_add] at h1
  · have h1 := hc 2 _ rfl
    rwa [← add_add] at h1
theorem isEmpty_size (l : List UInt8) : (S l).toList.isEmpty = decide (l.length = 0) := by
  have : (S l).toList = l := ByteArray.toList_eq _
  rw [this]; cases l <;> simp
/-- As the checks ask it. -/
def edAt (n : Int) (k : Nat) (e : Int) (x : Ed) : Int :=
  if x.at_ < 0 ∨ x.del < 0 ∨ n < x.at_ ∨ n < x.at_ + x.del then 1 else if 40 < x.ins.length then 2 else if x.del = 0 ∧ x.ins.length = 0 then 5 else if 0 < k ∧ x.at_ ≤ e then 6 else 0
/-- Where the loop of the checks stands. -/
structure EdAt (n : Int) (l : List Ed) (k : Nat) (e : Int) : Prop where
  le : k ≤ l.length
  e0 : 0 ≤ e
  e1 : e ≤ n
  go : edGo n none n l = edGo n (lastEnd (l.take k)) (n + grows (l.take k)) (l.drop k)
  last : lastEnd (l.take k) = if k = 0 then none else some e
  lo : -(200 * k : Int) ≤ grows (l.take k)
  hi : grows (l.take k) ≤ 40 * k
  chain : ∀ x ∈ l.take k, 0 ≤ x.del ∧ x.del ≤ 200 ∧ x.ins.length ≤ 40
theorem edAt_eq {n : Int} {l : List Ed} {k : Nat} {e : Int} (h : EdAt n l k e) (x : Ed) : edOne n (lastEnd (l.take k)) x = edAt n k e x := by
  unfold edOne edAt
  rw [h.last]
  have : (∃ e_1, (if k = 0 then none else some e) = some e_1 ∧ x.at_ ≤ e_1) ↔ (0 < k ∧ x.at_ ≤ e) := by
    by_cases hk : k = 0
    · simp [hk]
    · rw [if_neg hk]
      constructor
      · rintro ⟨_, h1, h2⟩; cases h1; exact ⟨by omega, h2⟩
      · rintro ⟨_, h2⟩; exact ⟨_, rfl, h2⟩
  simp only [this]
theorem EdAt.start {n : Int} (h : 0 ≤ n) (l : List Ed) : EdAt n l 0 0 := ⟨Nat.zero_le _, Int.le_refl _, h, by simp [lastEnd, grows], by simp [lastEnd], by simp [grows], by simp [grows], by simp⟩
theorem EdAt.step {n : Int} {l : List Ed} {k : Nat} {e : Int} (h : EdAt n l k e) (hn : n ≤ 200) (hk : k < l.length) (h0 : edAt n k e l[k] = 0) : EdAt n l (k + 1) (l[k].at_ + l[k].del) ∧ grows (l.take (k + 1)) = grows (l.take k) + (l[k].ins.length - l[k].del) := by
  have hg : grows (l.take (k + 1)) = grows (l.take k) + (l[k].ins.length - l[k].del) := by
    rw [List.take_succ_eq_append_getElem hk, grows_append]; simp [grows]
  have h1 := edAt_eq h l[k]
  rw [h0] at h1
  obtain ⟨a, b, c, d, f, _⟩ := edOne_zero h1
  have hlo := h.lo
  have hhi := h.hi
  refine ⟨⟨hk, by omega, d, edGo_take n l k hk h.go h1, ?_, by rw [hg]; omega, by rw [hg]; omega, ?_⟩, hg⟩
  · rw [lastEnd_take l k hk, if_neg (by omega)]
  · intro x hx
    rw [List.take_succ_eq_append_getElem hk] at hx
    rcases List.mem_append.1 hx with hx | hx
    · exact h.chain x hx
    · simp only [List.mem_singleton] at hx; subst hx; omega
theorem EdAt.bad {n : Int} {l : List Ed} {k : Nat} {e : Int} (h : EdAt n l k e) (hn0 : 0 ≤ n) (hn : n ≤ 200) (hl : l.length ≤ 20) (hk : k < l.length) {c : Int} (hc : edAt n k e l[k] = c) (hc0 : c ≠ 0) : edErr n l = c := by
  have h1 := edAt_eq h l[k]
  unfold edErr
  rw [if_neg (by omega), if_neg (by omega), edGo_bad n l k hk h.go (by rw [h1, hc]; exact hc0), h1, hc]
theorem EdAt.fin {n : Int} {l : List Ed} {k : Nat} {e : Int} (h : EdAt n l k e) (hn0 : 0 ≤ n) (hn : n ≤ 200) (hl : l.length ≤ 20) (hk : ¬ k < l.length) : edErr n l = if 200 < n + grows (l.take k) then 11 else 0 := by
  obtain rfl : k = l.length := by have := h.le; omega
  unfold edErr
  rw [if_neg (by omega), if_neg (by omega), edGo_end n l h.go, List.take_length]
end Go.Proofs.Ytncakjchaniheaa
namespace Go.Proofs.Ytncakjchaniheaa
/-- The n lowest bits of x, the highest first. -/
def bw (x : Nat) : Nat → List UInt8
  | 0 => []
  | n + 1 => UInt8.ofNat (48 + x / 2 ^ n % 2) :: bw x n
theorem bw_len (x n : Nat) : (bw x n).length = n := by
  induction n with
  | zero => rfl
  | succ n ih => simp [bw, ih]
theorem mod_succ (x n : Nat) : x % 2 ^ (n + 1) = x / 2 ^ n % 2 * 2 ^ n + x % 2 ^ n := by
  rw [Nat.pow_succ, Nat.mod_mul, Nat.mul_comm]; omega
theorem bw_less (n m x y : Nat) (h : m ≤ n) : (!Op.bytesLess (bw y m) (bw x n) || (bw y m).isPrefixOf (bw x n)) = decide (x % 2 ^ n / 2 ^ (n - m) ≤ y % 2 ^ m) := by
  induction m generalizing n with
  | zero =>
    have h0 : x % 2 ^ n / 2 ^ (n - 0) = 0 := Nat.div_eq_of_lt (Nat.mod_lt _ (Nat.two_pow_pos _))
    rw [h0]; simp [bw]
  | succ m ih =>
    obtain ⟨n, rfl⟩ : ∃ k, n = k + 1 := ⟨n - 1, by omega⟩
    have ih := ih n (by omega)
    have e1 : n + 1 - (m + 1) = n - m := by omega
    have e2 : x % 2 ^ (n + 1) / 2 ^ (n - m) = x / 2 ^ n % 2 * 2 ^ m + x % 2 ^ n / 2 ^ (n - m) := by
      rw [mod_succ]
      have : (2 : Nat) ^ n = 2 ^ m * 2 ^ (n - m) := by rw [← Nat.pow_add]; congr 1; omega
      have e3 : x / 2 ^ n % 2 * 2 ^ n = 2 ^ (n - m) * (x / 2 ^ n % 2 * 2 ^ m) := by
        rw [this, Nat.mul_comm (2 ^ (n - m)), Nat.mul_assoc]
      rw [e3, Nat.mul_add_div (Nat.two_pow_pos _)]
    rw [e1, e2, mod_succ y m]
    have hx : x / 2 ^ n % 2 < 2 := Nat.mod_lt _ (by omega)
    have hy : y / 2 ^ m % 2 < 2 := Nat.mod_lt _ (by omega)
    have hb : y % 2 ^ m < 2 ^ m := Nat.mod_lt _ (Nat.two_pow_pos _)
    have hd : x % 2 ^ n / 2 ^ (n - m) < 2 ^ m := by
      rw [Nat.div_lt_iff_lt_mul (Nat.two_pow_pos _), ← Nat.pow_add, show m + (n - m) = n by omega]
      exact Nat.mod_lt _ (Nat.two_pow_pos _)
    simp only [bw]
    generalize x % 2 ^ n / 2 ^ (n - m) = X at *
    generalize y % 2 ^ m = Y at *
    generalize (2 : Nat) ^ m = M at *
    generalize x / 2 ^ n % 2 = bx at *
    generalize y / M % 2 = by_ at *
    have d1 : ¬ (48 : UInt8) < 48 := by decide
    have d2 : ¬ (49 : UInt8) < 49 := by decide
    have d3 : (48 : UInt8) < 49 := by decide
    have d4 : ¬ (49 : UInt8) < 48 := by decide
    rcases (by omega : bx = 0 ∨ bx = 1) with rfl | rfl <;> rcases (by omega : by_ = 0 ∨ by_ = 1) with rfl | rfl <;> simp [Op.bytesLess, List.isPrefixOf]
    · simpa using ih
    · omega
    · omega
    · simpa using ih
/-- The words so far end at e; x is the first that may be. -/
theorem code_ok {n m x y e : Nat} (h : m ≤ n) (hn : n ≤ 12) (hx : x < 2 ^ n) (hy : y < 2 ^ m) (he : (y + 1) * 2 ^ (12 - m) = e) :
    (!Op.bytesLess (bw y m) (bw x n) || (bw y m).isPrefixOf (bw x n)) = decide (x * 2 ^ (12 - n) < e) := by
  rw [bw_less n m x y h, Nat.mod_eq_of_lt hx, Nat.mod_eq_of_lt hy, Bool.eq_iff_iff, decide_eq_true_iff, decide_eq_true_iff, ← he, ← Nat.lt_succ_iff, Nat.div_lt_iff_lt_mul (Nat.two_pow_pos _)]
  have : (2 : Nat) ^ (12 - m) = 2 ^ (n - m) * 2 ^ (12 - n) := by rw [← Nat.pow_add]; congr 1; omega
  rw [this, ← Nat.mul_assoc]
  exact (Nat.mul_lt_mul_right (Nat.two_pow_pos _)).symm
end Go.Proofs.Ytncakjchaniheaa
