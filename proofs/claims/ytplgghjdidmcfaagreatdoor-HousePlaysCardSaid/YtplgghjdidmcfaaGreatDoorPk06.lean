/- What is wrong with a row of words of 0 and 1 (plain). code.Check and the document's CodeErr. Numerals: what Trim and Atoi answer there (plain), and their calls. -/
import Derived.Test.YtplgghjdidmcfaaGreatDoorPk01
import Derived.Lib.SlTrimSet
import Derived.Test.YtplgghjdidmcfaaGreatDoorShelf
import Derived.Test.YtplgghjdidmcfaaGreatDoorPk05
import Derived.Shelf.Strings.SlTrimAscii
import Derived.Test.YtplgghjdidmcfaaGreatDoorPk03
namespace Go.Proofs.YtplgghjdidmcfaaGreatDoor
def isBit (b : UInt8) : Bool := b == 48 || b == 49
def wE (pre : List (List UInt8)) (w : List UInt8) : Int :=
  if w = [] then 5 else if 12 < w.length then 2 else if w.all isBit = false then 3 else if w ∈ pre then 10 else 0
def errTo (l : List (List UInt8)) : Nat → Int
  | 0 => 0
  | i + 1 => if errTo l i = 0 then wE (l.take i) (l.getD i []) else errTo l i
def codeErr (l : List (List UInt8)) : Int := if 12 < l.length then 2 else errTo l l.length
theorem errTo_go {l : List (List UInt8)} {i : Nat} (h : errTo l i = 0) : errTo l (i + 1) = wE (l.take i) (l.getD i []) := by rw [errTo, if_pos h]
theorem errTo_stay {l : List (List UInt8)} {i n : Nat} {e : Int} (h : errTo l i = e) (he : e ≠ 0) (hn : i ≤ n) : errTo l n = e := by
  induction n with
  | zero =>
    obtain rfl : i = 0 := by omega
    exact h
  | succ n ih =>
    rcases Nat.lt_or_ge i (n + 1) with h1 | h1
    · have := ih (by omega)
      rw [errTo, if_neg (by rw [this]; exact he)]
      exact this
    · obtain rfl : i = n + 1 := by omega
      exact h
theorem codeErr_bad {l : List (List UInt8)} {i : Nat} {e : Int} (hl : l.length ≤ 12) (h : errTo l i = 0) (hi : i < l.length) (hw : wE (l.take i) (l.getD i []) = e) (he : e ≠ 0) : codeErr l = e := by
  unfold codeErr
  rw [if_neg (by omega)]
  exact errTo_stay (i := i + 1) (by rw [errTo_go h, hw]) he hi
theorem wE_5 {pre : List (List UInt8)} : wE pre [] = 5 := if_pos rfl
theorem wE_2 {pre : List (List UInt8)} {w : List UInt8} (h : 12 < w.length) : wE pre w = 2 := by
  unfold wE
  rw [if_neg (fun e => by rw [e] at h; simp at h), if_pos h]
theorem wE_3 {pre : List (List UInt8)} {w : List UInt8} (h0 : w ≠ []) (h : w.length ≤ 12) (hb : w.all isBit = false) : wE pre w = 3 := by
  unfold wE
  rw [if_neg h0, if_neg (by omega), if_pos hb]
theorem wE_10 {pre : List (List UInt8)} {w : List UInt8} (h0 : w ≠ []) (h : w.length ≤ 12) (hb : w.all isBit = true) (hp : w ∈ pre) : wE pre w = 10 := by
  unfold wE
  rw [if_neg h0, if_neg (by omega), if_neg (by rw [hb]; decide), if_pos hp]
theorem wE_0 {pre : List (List UInt8)} {w : List UInt8} (h0 : w ≠ []) (h : w.length ≤ 12) (hb : w.all isBit = true) (hp : w ∉ pre) : wE pre w = 0 := by
  unfold wE
  rw [if_neg h0, if_neg (by omega), if_neg (by rw [hb]; decide), if_neg hp]
theorem wE_ok {pre : List (List UInt8)} {w : List UInt8} (h : wE pre w = 0) : w ≠ [] ∧ w.length ≤ 12 ∧ w.all isBit = true ∧ w ∉ pre := by
  unfold wE at h
  by_cases h0 : w = []
  · rw [if_pos h0] at h; cases h
  rw [if_neg h0] at h
  by_cases h1 : 12 < w.length
  · rw [if_pos h1] at h; cases h
  rw [if_neg h1] at h
  by_cases h2 : w.all isBit = false
  · rw [if_pos h2] at h; cases h
  rw [if_neg h2] at h
  by_cases h3 : w ∈ pre
  · rw [if_pos h3] at h; cases h
  exact ⟨h0, by omega, by simpa using h2, h3⟩
theorem errTo_all {l : List (List UInt8)} : ∀ {n}, errTo l n = 0 → ∀ i, i < n → wE (l.take i) (l.getD i []) = 0 := by
  intro n
  induction n with
  | zero => intro _ i hi; omega
  | succ n ih =>
    intro h i hi
    rw [errTo] at h
    by_cases h1 : errTo l n = 0
    · rw [if_pos h1] at h
      rcases Nat.lt_or_ge i n with h2 | h2
      · exact ih h1 i h2
      · obtain rfl : i = n := by omega
        exact h
    · rw [if_neg h1] at h
      exact absurd h h1
/-- A row in order: few words, none empty, none long, of 0 and 1, all unlike. -/
structure Cod (l : List (List UInt8)) : Prop where
  len : l.length ≤ 12
  ne : ∀ i, i < l.length → l.getD i [] ≠ []
  le : ∀ i, i < l.length → (l.getD i []).length ≤ 12
  inj : ∀ i k, i < l.length → k < l.length → l.getD i [] = l.getD k [] → i = k
theorem cod_of {l : List (List UInt8)} (h : codeErr l = 0) : Cod l := by
  unfold codeErr at h
  by_cases h0 : 12 < l.length
  · rw [if_pos h0] at h; cases h
  rw [if_neg h0] at h
  have ha := errTo_all h
  have key : ∀ i k, i < k → k < l.length → l.getD i [] ≠ l.getD k [] := by
    intro i k hik hk e
    have h1 := (wE_ok (ha k hk)).2.2.2
    refine h1 ?_
    rw [← e, List.getD_eq_getElem?_getD, List.getElem?_eq_getElem (by omega)]
    exact List.mem_take_iff_getElem.2 ⟨i, by omega, rfl⟩
  refine ⟨by omega, fun i hi => (wE_ok (ha i hi)).1, fun i hi => (wE_ok (ha i hi)).2.1, fun i k hi hk e => ?_⟩
  rcases Nat.lt_trichotomy i k with h1 | h1 | h1
  · exact absurd e (key i k h1 hk)
  · exact h1
  · exact absurd e.symm (key k i h1 hi)
theorem dropWhile_nil {p : UInt8 → Bool} : ∀ {l : List UInt8}, l.dropWhile p = [] ↔ l.all p = true := by
  intro l
  induction l with
  | nil => simp
  | cons a l ih =>
    rw [List.dropWhile_cons, List.all_cons]
    cases h : p a with
    | true => simpa using ih
    | false => simp
theorem bit_in (b : UInt8) : ([48, 49] : List UInt8).contains b = isBit b := by
  simp only [List.contains, List.elem, isBit]
  cases (b == 48) <;> cases (b == 49) <;> rfl
theorem trim_nil (w : List UInt8) : Lib.trimS w [48, 49] = [] ↔ w.all isBit = true := by
  have e : (fun b => ([48, 49] : List UInt8).contains b) = isBit := funext bit_in
  unfold Lib.trimS Lib.trimLeftS Lib.trimRightS
  rw [e, dropWhile_nil, List.all_reverse]
  constructor
  · intro h
    have h2 : (w.reverse.dropWhile isBit) = [] := by
      cases h3 : w.reverse.dropWhile isBit with
      | nil => rfl
      | cons a r =>
        exfalso
        rw [h3, List.all_cons, Bool.and_eq_true] at h
        have := List.head?_dropWhile_not isBit w.reverse
        rw [h3] at this
        simp [h.1] at this
    have h3 := dropWhile_nil.1 h2
    rwa [List.all_reverse] at h3
  · intro h
    have h2 : w.reverse.all isBit = true := by rw [List.all_reverse]; exact h
    rw [dropWhile_nil.2 h2]; rfl
theorem count_bits (w : List UInt8) : (w.count 48 + w.count 49 = w.length) ↔ w.all isBit = true := by
  have hle : ∀ w : List UInt8, w.count 48 + w.count 49 ≤ w.length := by
    intro w
    induction w with
    | nil => simp
    | cons a w ih =>
      rw [List.count_cons, List.count_cons, List.length_cons]
      by_cases h1 : a = 48
      · subst h1; simp; omega
      · by_cases h2 : a = 49
        · subst h2; simp; omega
        · have e1 : (a == 48) = false := by simpa using h1
          have e2 : (a == 49) = false := by simpa using h2
          rw [e1, e2]; simp; omega
  induction w with
  | nil => simp
  | cons a w ih =>
    rw [List.count_cons, List.count_cons, List.length_cons, List.all_cons, Bool.and_eq_true]
    have := hle w
    have i1 := ih.1
    have i2 := ih.2
    clear ih hle
    unfold isBit
    by_cases h1 : a = 48
    · subst h1
      constructor
      · intro h; simp at h; exact ⟨by decide, i1 (by omega)⟩
      · rintro ⟨_, h⟩; have := i2 h; simp; omega
    · by_cases h2 : a = 49
      · subst h2
        constructor
        · intro h; simp at h; exact ⟨by decide, i1 (by omega)⟩
        · rintro ⟨_, h⟩; have := i2 h; simp; omega
      · have e1 : (a == 48) = false := by simpa using h1
        have e2 : (a == 49) = false := by simpa using h2
        rw [e1, e2]
        constructor
        · intro h; simp at h; omega
        · rintro ⟨h, _⟩; cases h
end Go.Proofs.YtplgghjdidmcfaaGreatDoor
namespace Go.Proofs.YtplgghjdidmcfaaGreatDoor
open Go.RowKit
theorem trim_bits (X : ByteArray) (hX : X.size ≤ 9223372036854775807) (W : World) :
    Calls Tryz.prog 62 #[.string X, .string ⟨#[48, 49]⟩] W fun e W' => e = .returned (.string (S (Lib.trimS (L X) [48, 49]))) ∧ Below W.heap.size W W' :=
  Any.strings_Trim_laid Tryz.lays160 (by kernel_rfl) X ⟨#[48, 49]⟩ W (by omega) (by decide) (ascii_of_all (by decide))
theorem emp_facts (p : ByteArray) : (p.size = 0 → (p.toList == []) = true ∧ p.toList.isEmpty = true) ∧ (p.size ≠ 0 → (p.toList == []) = false ∧ p.toList.isEmpty = false) := by
  constructor
  · intro h0
    have hpe : p.data.toList = [] := List.eq_nil_of_length_eq_zero (by rw [blen]; exact h0)
    rw [ByteArray.toList_eq, hpe]
    exact ⟨rfl, rfl⟩
  · intro h0
    have hpe : p.data.toList ≠ [] := fun h => h0 (by rw [← blen, h]; rfl)
    rw [ByteArray.toList_eq]
    exact ⟨by rw [beq_eq_false_iff_ne]; exact hpe, by rw [List.isEmpty_eq_false_iff]; exact hpe⟩
theorem strCells_pre (l : List (List UInt8)) (k : Nat) : (strCells l).take k = strCells (l.take k) := by simp [strCells, List.map_take]
theorem Rd.pre {w : World} {B n k : Nat} {A : Option Addr} {l : List (List UInt8)} (h : Rd w B 1 A n (strCells l)) (hk : k ≤ n) : Rd w B 1 A k (strCells (l.take k)) := by
  refine ⟨?_, fun h0 => ?_⟩
  · have := h.1
    simp only [strCells, List.length_map] at this ⊢
    rw [List.length_take]; omega
  · obtain ⟨ad, h1, h2, h3⟩ := h.2 (by omega)
    refine ⟨ad, h1, h2, fun j u hu => h3 j u ?_⟩
    rw [← strCells_pre] at hu
    rw [List.getElem?_take] at hu
    split at hu
    · exact hu
    · cases hu
end Go.Proofs.YtplgghjdidmcfaaGreatDoor
namespace Go.Proofs.YtplgghjdidmcfaaGreatDoor
open Go.RowKit
def digs : List UInt8 := [48, 49, 50, 51, 52, 53, 54, 55, 56, 57]
def digB : ByteArray := ⟨#[48, 49, 50, 51, 52, 53, 54, 55, 56, 57]⟩
def isDg (b : UInt8) : Bool := decide (48 ≤ b.toNat ∧ b.toNat ≤ 57)
set_option maxRecDepth 100000 in
theorem dg_in (b : UInt8) : digs.contains b = isDg b := by
  have h : ∀ n : Fin 256, digs.contains (UInt8.ofNat n.val) = isDg (UInt8.ofNat n.val) := by decide
  have := h ⟨b.toNat, b.toNat_lt⟩
  simpa using this
theorem trim_digs (w : List UInt8) : Lib.trimS w digs = [] ↔ w.all isDg = true := by
  have e : (fun b => digs.contains b) = isDg := funext dg_in
  unfold Lib.trimS Lib.trimLeftS Lib.trimRightS
  rw [e, dropWhile_nil, List.all_reverse]
  constructor
  · intro h
    have h2 : (w.reverse.dropWhile isDg) = [] := by
      cases h3 : w.reverse.dropWhile isDg with
      | nil => rfl
      | cons a r =>
        exfalso
        rw [h3, List.all_cons, Bool.and_eq_true] at h
        have := List.head?_dropWhile_not isDg w.reverse
        rw [h3] at this
        simp [h.1] at this
    have h3 := dropWhile_nil.1 h2
    rwa [List.all_reverse] at h3
  · intro h
    have h2 : w.reverse.all isDg = true := by rw [List.all_reverse]; exact h
    rw [dropWhile_nil.2 h2]; rfl
theorem dec_all : ∀ (w : List UInt8) (acc : Nat), (w.all isDg = true → ∃ v, Lib.decFrom acc w = some v) ∧ (w.all isDg = false → Lib.decFrom acc w = none) := by
  intro w
  induction w with
  | nil => intro acc; exact ⟨fun _ => ⟨acc, rfl⟩, fun h => by cases h⟩
  | cons b w ih =>
    intro acc
    rw [Lib.decFrom]
    unfold Lib.digitVal
    rw [List.all_cons]
    by_cases h : 48 ≤ b.toNat ∧ b.toNat ≤ 57
    · rw [if_pos h, show isDg b = true from decide_eq_true h]
      simp only [Bool.true_and]
      exact ih _
    · rw [if_neg h, show isDg b = false from decide_eq_false h]
      simp
theorem valNum_bad {a : List UInt8} (h : okNum a = false ∨ a.all isDg = false) : valNum a = none := by
  unfold valNum
  rcases h with h | h
  · rw [h]; rfl
  · split
    · exact (dec_all a 0).2 h
    · rfl
theorem okNum_1 : okNum [] = false := by decide
theorem okNum_2 {a : List UInt8} (h : 3 < a.length) : okNum a = false := decide_eq_false fun h2 => by omega
theorem okNum_3 {a : List UInt8} (h : a.getD 0 0 = 48) (h1 : 1 < a.length) : okNum a = false := decide_eq_false fun h2 => h2.2.2 ⟨h, h1⟩
theorem okNum_4 {a : List UInt8} (h0 : a.length ≠ 0) (h1 : a.length ≤ 3) (h : ¬ (a.getD 0 0 = 48 ∧ 1 < a.length)) : okNum a = true := decide_eq_true ⟨h0, h1, h⟩
theorem dec_small : ∀ (w : List UInt8) (acc v : Nat), Lib.decFrom acc w = some v → v < (acc + 1) * 10 ^ w.length := by
  intro w
  induction w with
  | nil => intro acc v h; simp [Lib.decFrom] at h; subst h; simp
  | cons b w ih =>
    intro acc v h
    rw [Lib.decFrom] at h
    cases hd : Lib.digitVal b with
    | none => rw [hd] at h; cases h
    | some d =>
      rw [hd] at h
      obtain ⟨_, h1, h2⟩ := dig48 hd
      have := ih _ _ h
      rw [List.length_cons, Nat.pow_succ, Nat.mul_comm (10 ^ w.length) 10, ← Nat.mul_assoc]
      exact Nat.lt_of_lt_of_le this (Nat.mul_le_mul_right _ (by omega))
theorem valNum_small {a : List UInt8} {v : Nat} (h : valNum a = some v) : v ≤ 999 := by
  unfold valNum at h
  split at h
  · rename_i ho
    have h1 := dec_small _ _ _ h
    have h2 := of_decide_eq_true ho
    have h3 : 10 ^ a.length ≤ 10 ^ 3 := Nat.pow_le_pow_right (by omega) h2.2.1
    have h4 : (0 + 1) * 10 ^ a.length ≤ 1000 := by omega
    omega
  · cases h
theorem atoi_dig {a : List UInt8} {v : Nat} (hd : a.all isDg = true) (h0 : a.length ≠ 0) (h : Lib.decFrom 0 a = some v) : Lib.atoi a = some (v : Int) := by
  cases a with
  | nil => exact absurd rfl h0
  | cons b r =>
    rw [List.all_cons, Bool.and_eq_true] at hd
    have hb := of_decide_eq_true hd.1
    have h45 : (b == 45) = false := by rw [beq_eq_false_iff_ne]; intro e; subst e; exact absurd hb.1 (by decide)
    have h43 : (b == 43) = false := by rw [beq_eq_false_iff_ne]; intro e; subst e; exact absurd hb.1 (by decide)
    unfold Lib.atoi
    simp only
    rw [h45, h43]
    simp only [Bool.false_eq_true, if_false]
    have : Lib.decNat (b :: r) = some v := h
    rw [this]; rfl
theorem trim_digits (X : ByteArray) (hX : X.size ≤ 9223372036854775807) (W : World) :
    Calls Tryz.prog 62 #[.string X, .string ⟨#[48, 49, 50, 51, 52, 53, 54, 55, 56, 57]⟩] W fun e W' => e = .returned (.string (S (Lib.trimS (L X) digs))) ∧ Below W.heap.size W W' :=
  Any.strings_Trim_laid Tryz.lays160 (by kernel_rfl) X ⟨#[48, 49, 50, 51, 52, 53, 54, 55, 56, 57]⟩ W (by omega) (by decide) (ascii_of_all (by decide))
end Go.Proofs.YtplgghjdidmcfaaGreatDoor
