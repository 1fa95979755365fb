/- slices.Index, Contains and Clone at strings, of a slice that reads as a list. What is wrong with a row of words of 0 and 1 (plain). code.Check and the document's CodeErr. -/
import Derived.Test.YtncakjchaniheaaDoorPk03
import Derived.Test.YtncakjchaniheaaDoorPk01
import Derived.Lib.SlTrimSet
import Derived.Test.YtncakjchaniheaaDoorShelf
import Derived.Shelf.Strings.SlTrimAscii
namespace Go.Proofs.YtncakjchaniheaaDoor
open Go.RowKit
theorem idxC_ne (l : List (List UInt8)) (x : List UInt8) : ∀ j, j < l.idxOf x → ∀ hj : j < l.length, l[j] ≠ x := by
  intro j h hj e
  have h2 : j < l.findIdx (· == x) := h
  have := List.not_of_lt_findIdx h2
  rw [e] at this
  simp at this
def idxL2 (l : List (List UInt8)) (x : List UInt8) : Int := if x ∈ l then (l.idxOf x : Int) else -1
theorem idxL2_lt {l : List (List UInt8)} {i : Nat} (hi : i < l.length) : (idxL2 l (l.getD i []) < (i : Int)) ↔ l.getD i [] ∈ l.take i := by
  have hg : l.getD i [] = l[i] := by rw [List.getD_eq_getElem?_getD, List.getElem?_eq_getElem hi]; rfl
  rw [hg]
  unfold idxL2
  rw [if_pos (List.getElem_mem hi)]
  have hlt := List.idxOf_lt_length_of_mem (List.getElem_mem hi)
  constructor
  · intro h
    refine List.mem_take_iff_getElem.2 ⟨l.idxOf l[i], by omega, ?_⟩
    exact List.getElem_idxOf _
  · intro h
    obtain ⟨j, hj, e⟩ := List.mem_take_iff_getElem.1 h
    have h1 : l.idxOf l[i] ≤ j := by
      rcases Nat.lt_or_ge j (l.idxOf l[i]) with h2 | h2
      · exact absurd e (idxC_ne _ _ _ h2 _)
      · exact h2
    omega
set_option maxRecDepth 100000 in
set_option maxHeartbeats 4000000 in
theorem index_str (A : Option Addr) (n c B : Nat) (l : List (List UInt8)) (x : ByteArray) (w : World) (hr : Rd w B 1 A n (strCells l)) (hn : n ≤ 140737488351232) :
    Calls Tryd.prog 67 #[.slice A n c, .string x] w fun e w' => e = .returned (.int .i64 (idxL2 l (L x))) ∧ w' = w := by
  have hl : l.length = n := by have := hr.1; simpa [strCells] using this
  have HR := Lib.hid hr
  clear hr
  go_enter Tryd.func67, Tryd.ntmps67
  go_wp2_with fail
  go_loopw [8] (fun iv wr => ∃ i : Nat, i ≤ n ∧ iv = .int .i64 (i : Int) ∧ Hid (∀ j, j < i → l.getD j [] ≠ L x) ∧ wr = w) (fun iv _ => n - (intOf iv).toNat)
  case atStart => exact ⟨0, Nat.zero_le _, rfl, Lib.hid (fun j hj => by omega), rfl⟩
  case round =>
    obtain ⟨i, hi, rfl, HN, rfl⟩ := hrel
    by_cases hlt : i < n
    · have g1 : decide ((i : Int) < (n : Int)) = true := decide_eq_true (by omega)
      have g1' : decide (i < n) = true := decide_eq_true hlt
      obtain ⟨ad, rfl, hab, c0⟩ := str_cell HR.out hlt
      obtain ⟨Y, hY⟩ : ∃ Y, S (l.getD i []) = Y := ⟨_, rfl⟩
      rw [hY] at c0
      by_cases he : l.getD i [] = L x
      · have g2 : (x.toList == Y.toList) = true := by rw [beqB, ← hY, he]; exact decide_eq_true rfl
        have HV : Hid (idxL2 l (L x) = (i : Int)) := by
          unfold Hid idxL2
          have hm : L x ∈ l := by rw [← he, List.getD_eq_getElem?_getD, List.getElem?_eq_getElem (by omega)]; exact List.getElem_mem _
          rw [if_pos hm]
          have hi2 := List.idxOf_lt_length_of_mem hm
          have h1 : l.getD (l.idxOf (L x)) [] = L x := by
            rw [List.getD_eq_getElem?_getD, List.getElem?_eq_getElem hi2]; exact List.getElem_idxOf _
          have h2 : i ≤ l.idxOf (L x) := by
            rcases Nat.lt_or_ge (l.idxOf (L x)) i with h3 | h3
            · exact absurd h1 (HN.out _ h3)
            · exact h3
          have h4 : l.idxOf (L x) ≤ i := by
            rcases Nat.lt_or_ge i (l.idxOf (L x)) with h3 | h3
            · rw [List.getD_eq_getElem?_getD, List.getElem?_eq_getElem (show i < l.length by omega)] at he
              exact absurd he (idxC_ne _ _ _ h3 _)
            · exact h3
          omega
        clear he hY
        go_wp2_with fail
        go_ret
        rw [HV.out]
        exact ⟨rfl, rfl⟩
      · have g2 : (x.toList == Y.toList) = false := by
          rw [beqB, ← hY]
          exact decide_eq_false fun h => he (by rw [h]; rfl)
        have HN2 : Hid (∀ j, j < i + 1 → l.getD j [] ≠ L x) := fun j hj => by
          rcases Nat.lt_or_ge j i with h1 | h1
          · exact HN.out j h1
          · obtain rfl : j = i := by omega
            exact he
        clear he hY
        go_wp2_with fail
        go_roundw
        case rel => exact ⟨i + 1, by omega, by go_num, HN2, by first | rfl | trivial⟩
        case measure => simp [intOf]; omega
    · obtain rfl : i = n := by omega
      have g1 : decide ((i : Int) < (i : Int)) = false := decide_eq_false (by omega)
      have g1' : decide (i < i) = false := decide_eq_false hlt
      have HV : Hid (idxL2 l (L x) = -1) := by
        unfold Hid idxL2
        rw [if_neg]
        intro hm
        obtain ⟨j, hj, e⟩ := List.mem_iff_getElem.1 hm
        exact HN.out j (by omega) (by rw [List.getD_eq_getElem?_getD, List.getElem?_eq_getElem hj]; exact e)
      go_wp2_with fail
      go_ret
      rw [HV.out]
      exact ⟨rfl, rfl⟩
set_option maxHeartbeats 2000000 in
theorem contains_str (A : Option Addr) (n c B : Nat) (l : List (List UInt8)) (x : ByteArray) (w : World) (hr : Rd w B 1 A n (strCells l)) (hn : n ≤ 140737488351232) :
    Calls Tryd.prog 42 #[.slice A n c, .string x] w fun e w' => e = .returned (.bool (decide (L x ∈ l))) ∧ w' = w := by
  have HC := Lib.hid (index_str A n c B l x w hr hn)
  have HV : Hid (decide (0 ≤ idxL2 l (L x)) = decide (L x ∈ l)) := by
    unfold Hid idxL2
    by_cases h : L x ∈ l
    · rw [if_pos h]; simp [h]
    · rw [if_neg h]; simp [h]
  clear hr
  generalize idxL2 l (L x) = z at *
  generalize decide (L x ∈ l) = b at *
  go_enter Tryd.func42, Tryd.ntmps42
  go_wp2_with fail
  refine HC.out.mono ?_
  rintro e w1 ⟨rfl, rfl⟩
  go_wp2_with fail
  go_ret
  exact ⟨ret_bool HV.out, rfl⟩
end Go.Proofs.YtncakjchaniheaaDoor
namespace Go.Proofs.YtncakjchaniheaaDoor
def isBit (b : UInt8) : Bool := b == 48 || b == 49
def wE (pre : List (List UInt8)) (w : List UInt8) : Int :=
  if w = [] then 5 else if 12 < w.length then 2 else if w.all isBit = false then 3 else if w ∈ pre then 10 else 0
def errTo (l : List (List UInt8)) : Nat → Int
  | 0 => 0
  | i + 1 => if errTo l i = 0 then wE (l.take i) (l.getD i []) else errTo l i
def codeErr (l : List (List UInt8)) : Int := if 12 < l.length then 2 else errTo l l.length
theorem errTo_go {l : List (List UInt8)} {i : Nat} (h : errTo l i = 0) : errTo l (i + 1) = wE (l.take i) (l.getD i []) := by rw [errTo, if_pos h]
theorem errTo_stay {l : List (List UInt8)} {i n : Nat} {e : Int} (h : errTo l i = e) (he : e ≠ 0) (hn : i ≤ n) : errTo l n = e := by
  induction n with
  | zero =>
    obtain rfl : i = 0 := by omega
    exact h
  | succ n ih =>
    rcases Nat.lt_or_ge i (n + 1) with h1 | h1
    · have := ih (by omega)
      rw [errTo, if_neg (by rw [this]; exact he)]
      exact this
    · obtain rfl : i = n + 1 := by omega
      exact h
theorem codeErr_bad {l : List (List UInt8)} {i : Nat} {e : Int} (hl : l.length ≤ 12) (h : errTo l i = 0) (hi : i < l.length) (hw : wE (l.take i) (l.getD i []) = e) (he : e ≠ 0) : codeErr l = e := by
  unfold codeErr
  rw [if_neg (by omega)]
  exact errTo_stay (i := i + 1) (by rw [errTo_go h, hw]) he hi
theorem wE_5 {pre : List (List UInt8)} : wE pre [] = 5 := if_pos rfl
theorem wE_2 {pre : List (List UInt8)} {w : List UInt8} (h : 12 < w.length) : wE pre w = 2 := by
  unfold wE
  rw [if_neg (fun e => by rw [e] at h; simp at h), if_pos h]
theorem wE_3 {pre : List (List UInt8)} {w : List UInt8} (h0 : w ≠ []) (h : w.length ≤ 12) (hb : w.all isBit = false) : wE pre w = 3 := by
  unfold wE
  rw [if_neg h0, if_neg (by omega), if_pos hb]
theorem wE_10 {pre : List (List UInt8)} {w : List UInt8} (h0 : w ≠ []) (h : w.length ≤ 12) (hb : w.all isBit = true) (hp : w ∈ pre) : wE pre w = 10 := by
  unfold wE
  rw [if_neg h0, if_neg (by omega), if_neg (by rw [hb]; decide), if_pos hp]
theorem wE_0 {pre : List (List UInt8)} {w : List UInt8} (h0 : w ≠ []) (h : w.length ≤ 12) (hb : w.all isBit = true) (hp : w ∉ pre) : wE pre w = 0 := by
  unfold wE
  rw [if_neg h0, if_neg (by omega), if_neg (by rw [hb]; decide), if_neg hp]
theorem wE_ok {pre : List (List UInt8)} {w : List UInt8} (h : wE pre w = 0) : w ≠ [] ∧ w.length ≤ 12 ∧ w.all isBit = true ∧ w ∉ pre := by
  unfold wE at h
  by_cases h0 : w = []
  · rw [if_pos h0] at h; cases h
  rw [if_neg h0] at h
  by_cases h1 : 12 < w.length
  · rw [if_pos h1] at h; cases h
  rw [if_neg h1] at h
  by_cases h2 : w.all isBit = false
  · rw [if_pos h2] at h; cases h
  rw [if_neg h2] at h
  by_cases h3 : w ∈ pre
  · rw [if_pos h3] at h; cases h
  exact ⟨h0, by omega, by simpa using h2, h3⟩
theorem errTo_all {l : List (List UInt8)} : ∀ {n}, errTo l n = 0 → ∀ i, i < n → wE (l.take i) (l.getD i []) = 0 := by
  intro n
  induction n with
  | zero => intro _ i hi; omega
  | succ n ih =>
    intro h i hi
    rw [errTo] at h
    by_cases h1 : errTo l n = 0
    · rw [if_pos h1] at h
      rcases Nat.lt_or_ge i n with h2 | h2
      · exact ih h1 i h2
      · obtain rfl : i = n := by omega
        exact h
    · rw [if_neg h1] at h
      exact absurd h h1
/-- A row in order: few words, none empty, none long, of 0 and 1, all unlike. -/
structure Cod (l : List (List UInt8)) : Prop where
  len : l.length ≤ 12
  ne : ∀ i, i < l.length → l.getD i [] ≠ []
  le : ∀ i, i < l.length → (l.getD i []).length ≤ 12
  inj : ∀ i k, i < l.length → k < l.length → l.getD i [] = l.getD k [] → i = k
theorem cod_of {l : List (List UInt8)} (h : codeErr l = 0) : Cod l := by
  unfold codeErr at h
  by_cases h0 : 12 < l.length
  · rw [if_pos h0] at h; cases h
  rw [if_neg h0] at h
  have ha := errTo_all h
  have key : ∀ i k, i < k → k < l.length → l.getD i [] ≠ l.getD k [] := by
    intro i k hik hk e
    have h1 := (wE_ok (ha k hk)).2.2.2
    refine h1 ?_
    rw [← e, List.getD_eq_getElem?_getD, List.getElem?_eq_getElem (by omega)]
    exact List.mem_take_iff_getElem.2 ⟨i, by omega, rfl⟩
  refine ⟨by omega, fun i hi => (wE_ok (ha i hi)).1, fun i hi => (wE_ok (ha i hi)).2.1, fun i k hi hk e => ?_⟩
  rcases Nat.lt_trichotomy i k with h1 | h1 | h1
  · exact absurd e (key i k h1 hk)
  · exact h1
  · exact absurd e.symm (key k i h1 hi)
theorem dropWhile_nil {p : UInt8 → Bool} : ∀ {l : List UInt8}, l.dropWhile p = [] ↔ l.all p = true := by
  intro l
  induction l with
  | nil => simp
  | cons a l ih =>
    rw [List.dropWhile_cons, List.all_cons]
    cases h : p a with
    | true => simpa using ih
    | false => simp
theorem bit_in (b : UInt8) : ([48, 49] : List UInt8).contains b = isBit b := by
  simp only [List.contains, List.elem, isBit]
  cases (b == 48) <;> cases (b == 49) <;> rfl
theorem trim_nil (w : List UInt8) : Lib.trimS w [48, 49] = [] ↔ w.all isBit = true := by
  have e : (fun b => ([48, 49] : List UInt8).contains b) = isBit := funext bit_in
  unfold Lib.trimS Lib.trimLeftS Lib.trimRightS
  rw [e, dropWhile_nil, List.all_reverse]
  constructor
  · intro h
    have h2 : (w.reverse.dropWhile isBit) = [] := by
      cases h3 : w.reverse.dropWhile isBit with
      | nil => rfl
      | cons a r =>
        exfalso
        rw [h3, List.all_cons, Bool.and_eq_true] at h
        have := List.head?_dropWhile_not isBit w.reverse
        rw [h3] at this
        simp [h.1] at this
    have h3 := dropWhile_nil.1 h2
    rwa [List.all_reverse] at h3
  · intro h
    have h2 : w.reverse.all isBit = true := by rw [List.all_reverse]; exact h
    rw [dropWhile_nil.2 h2]; rfl
theorem count_bits (w : List UInt8) : (w.count 48 + w.count 49 = w.length) ↔ w.all isBit = true := by
  have hle : ∀ w : List UInt8, w.count 48 + w.count 49 ≤ w.length := by
    intro w
    induction w with
    | nil => simp
    | cons a w ih =>
      rw [List.count_cons, List.count_cons, List.length_cons]
      by_cases h1 : a = 48
      · subst h1; simp; omega
      · by_cases h2 : a = 49
        · subst h2; simp; omega
        · have e1 : (a == 48) = false := by simpa using h1
          have e2 : (a == 49) = false := by simpa using h2
          rw [e1, e2]; simp; omega
  induction w with
  | nil => simp
  | cons a w ih =>
    rw [List.count_cons, List.count_cons, List.length_cons, List.all_cons, Bool.and_eq_true]
    have := hle w
    have i1 := ih.1
    have i2 := ih.2
    clear ih hle
    unfold isBit
    by_cases h1 : a = 48
    · subst h1
      constructor
      · intro h; simp at h; exact ⟨by decide, i1 (by omega)⟩
      · rintro ⟨_, h⟩; have := i2 h; simp; omega
    · by_cases h2 : a = 49
      · subst h2
        constructor
        · intro h; simp at h; exact ⟨by decide, i1 (by omega)⟩
        · rintro ⟨_, h⟩; have := i2 h; simp; omega
      · have e1 : (a == 48) = false := by simpa using h1
        have e2 : (a == 49) = false := by simpa using h2
        rw [e1, e2]
        constructor
        · intro h; simp at h; omega
        · rintro ⟨h, _⟩; cases h
end Go.Proofs.YtncakjchaniheaaDoor
namespace Go.Proofs.YtncakjchaniheaaDoor
open Go.RowKit
theorem trim_bits (X : ByteArray) (hX : X.size ≤ 9223372036854775807) (W : World) :
    Calls Tryd.prog 41 #[.string X, .string ⟨#[48, 49]⟩] W fun e W' => e = .returned (.string (S (Lib.trimS (L X) [48, 49]))) ∧ Below W.heap.size W W' :=
  Any.strings_Trim_laid Tryd.lays160 (by kernel_rfl) X ⟨#[48, 49]⟩ W (by omega) (by decide) (ascii_of_all (by decide))
theorem emp_facts (p : ByteArray) : (p.size = 0 → (p.toList == []) = true ∧ p.toList.isEmpty = true) ∧ (p.size ≠ 0 → (p.toList == []) = false ∧ p.toList.isEmpty = false) := by
  constructor
  · intro h0
    have hpe : p.data.toList = [] := List.eq_nil_of_length_eq_zero (by rw [blen]; exact h0)
    rw [ByteArray.toList_eq, hpe]
    exact ⟨rfl, rfl⟩
  · intro h0
    have hpe : p.data.toList ≠ [] := fun h => h0 (by rw [← blen, h]; rfl)
    rw [ByteArray.toList_eq]
    exact ⟨by rw [beq_eq_false_iff_ne]; exact hpe, by rw [List.isEmpty_eq_false_iff]; exact hpe⟩
theorem strCells_pre (l : List (List UInt8)) (k : Nat) : (strCells l).take k = strCells (l.take k) := by simp [strCells, List.map_take]
theorem Rd.pre {w : World} {B n k : Nat} {A : Option Addr} {l : List (List UInt8)} (h : Rd w B 1 A n (strCells l)) (hk : k ≤ n) : Rd w B 1 A k (strCells (l.take k)) := by
  refine ⟨?_, fun h0 => ?_⟩
  · have := h.1
    simp only [strCells, List.length_map] at this ⊢
    rw [List.length_take]; omega
  · obtain ⟨ad, h1, h2, h3⟩ := h.2 (by omega)
    refine ⟨ad, h1, h2, fun j u hu => h3 j u ?_⟩
    rw [← strCells_pre] at hu
    rw [List.getElem?_take] at hu
    split at hu
    · exact hu
    · cases hu
set_option maxRecDepth 100000 in
set_option maxHeartbeats 8000000 in
theorem codeCheck_any (A : Option Addr) (n c B : Nat) (l : List (List UInt8)) (w : World) (hr : Rd w B 1 A n (strCells l)) (hn : n ≤ c) (hB : B ≤ w.heap.size) (hx : ∀ x ∈ l, x.length ≤ maxLen) :
    Calls Tryd.prog 23 #[.slice A n c] w fun e w' => e = .returned (.int .i64 (codeErr l)) ∧ Below w.heap.size w w' := by
  have hl : l.length = n := by have := hr.1; simpa [strCells] using this
  have hml : maxLen ≤ 9223372036854775807 := by decide
  have HR := Lib.hid hr
  clear hr
  by_cases hbig : 12 < n
  · have HE : Hid (codeErr l = 2) := by unfold Hid codeErr; rw [if_pos (by omega)]
    have g1 : decide ((12 : Int) < (n : Int)) = true := decide_eq_true (by omega)
    go_enter Tryd.func23, Tryd.ntmps23
    go_wp2_with fail
    go_ret
    rw [HE.out]
    exact ⟨rfl, Below.refl _ _⟩
  have g0 : decide ((12 : Int) < (n : Int)) = false := decide_eq_false (by omega)
  go_enter Tryd.func23, Tryd.ntmps23
  go_wp2_with fail
  go_loopw [10] (fun iv wr => ∃ i : Nat, i ≤ n ∧ iv = .int .i64 (i : Int) ∧ Hid (errTo l i = 0) ∧ Below w.heap.size w wr) (fun iv _ => n - (intOf iv).toNat)
  case atStart => exact ⟨0, Nat.zero_le _, rfl, rfl, Below.refl _ _⟩
  case round =>
    obtain ⟨i, hi, rfl, HE, hb⟩ := hrel
    by_cases hlt : i < n
    · have g1 : decide ((i : Int) < (n : Int)) = true := decide_eq_true (by omega)
      have g1' : decide (i < n) = true := decide_eq_true hlt
      have hxi : (l.getD i []).length ≤ maxLen := hx _ (by rw [List.getD_eq_getElem?_getD, List.getElem?_eq_getElem (by omega)]; exact List.getElem_mem _)
      have HRr := HR.out.below (hb.mono hB)
      obtain ⟨ad, rfl, hab, c0⟩ := str_cell HRr hlt
      have HRi := Lib.hid (HRr.pre (k := i) hi)
      clear HRr
      have HBAD : Hid (∀ e : Int, wE (l.take i) (l.getD i []) = e → e ≠ 0 → codeErr l = e) := fun e h1 h2 => codeErr_bad (by omega) HE.out (by omega) h1 h2
      have HGO := Lib.hid (errTo_go HE.out)
      clear HE
      obtain ⟨u, hu⟩ : ∃ u, l.getD i [] = u := ⟨_, rfl⟩
      rw [hu] at c0 HBAD HGO hxi
      have HPRE : Hid (∀ W, Rd W B 1 (some ad) i (strCells (l.take i)) → Calls Tryd.prog 42 #[.slice (some ad) i c, .string (S u)] W fun e w' => e = .returned (.bool (decide (u ∈ l.take i))) ∧ w' = W) := fun W h => contains_str (some ad) i c B (l.take i) (S u) W h (by omega)
      generalize l.take i = pre at *
      clear hu
      obtain ⟨X, hX⟩ : ∃ X, S u = X := ⟨_, rfl⟩
      have hxz : X.size = u.length := by rw [← hX, S_size]
      have HLX : Hid (L X = u) := by rw [← hX]; exact L_S u
      rw [hX] at c0 HPRE
      clear hX
      by_cases h0 : u = []
      · have hz : X.size = 0 := by rw [hxz, h0]; rfl
        obtain ⟨g2, g3⟩ := (emp_facts X).1 hz
        have HV := Lib.hid (HBAD.out 5 (by rw [h0]; exact wE_5) (by decide))
        clear h0 hxz
        go_wp2_with fail
        go_ret
        rw [HV.out]
        exact ⟨rfl, hb⟩
      obtain ⟨g2, g3⟩ := (emp_facts X).2 (by rw [hxz]; intro h; exact h0 (List.eq_nil_of_length_eq_zero h))
      have H0 := Lib.hid h0
      clear h0
      by_cases h1 : 12 < u.length
      · have g4 : decide ((12 : Int) < (X.size : Int)) = true := decide_eq_true (by omega)
        have g4' : decide (12 < X.size) = true := decide_eq_true (by omega)
        have HV := Lib.hid (HBAD.out 2 (wE_2 h1) (by decide))
        clear h1 hxz
        go_wp2_with fail
        go_ret
        rw [HV.out]
        exact ⟨rfl, hb⟩
      have g4 : decide ((12 : Int) < (X.size : Int)) = false := decide_eq_false (by omega)
      have g4' : decide (12 < X.size) = false := decide_eq_false (by omega)
      have HTR := Lib.hid (trim_bits X (by omega))
      rw [HLX.out] at HTR
      cases hbit : u.all isBit with
      | false =>
        have HV := Lib.hid (HBAD.out 3 (wE_3 H0.out (by omega) hbit) (by decide))
        have ht : Lib.trimS u [48, 49] ≠ [] := fun h => by rw [trim_nil, hbit] at h; cases h
        obtain ⟨T, hT⟩ : ∃ T, S (Lib.trimS u [48, 49]) = T := ⟨_, rfl⟩
        have htz : T.size ≠ 0 := by rw [← hT, S_size]; intro h; exact ht (List.eq_nil_of_length_eq_zero h)
        obtain ⟨g5, g6⟩ := (emp_facts T).2 htz
        rw [hT] at HTR
        clear hT ht htz hbit hxz
        go_wp2_with fail
        refine (HTR.out _).mono ?_
        rintro e w2 ⟨rfl, hb2⟩
        go_wp2_with fail
        go_ret
        rw [HV.out]
        exact ⟨rfl, bthen hb hb2⟩
      | true =>
        have ht : Lib.trimS u [48, 49] = [] := (trim_nil u).2 hbit
        rw [ht] at HTR
        obtain ⟨T, hT⟩ : ∃ T, S ([] : List UInt8) = T := ⟨_, rfl⟩
        have htz : T.size = 0 := by rw [← hT, S_size]; rfl
        obtain ⟨g5, g6⟩ := (emp_facts T).1 htz
        rw [hT] at HTR
        clear hT htz
        cases hm : decide (u ∈ pre) with
        | true =>
          have HV := Lib.hid (HBAD.out 10 (wE_10 H0.out (by omega) hbit (of_decide_eq_true hm)) (by decide))
          rw [hm] at HPRE
          clear hm hbit hxz ht
          go_wp2_with fail
          refine (HTR.out _).mono ?_
          rintro e w2 ⟨rfl, hb2⟩
          go_wp2_with fail
          refine (HPRE.out _ (HRi.out.below (hb2.mono (Nat.le_trans hB hb.size)))).mono ?_
          rintro e w3 ⟨rfl, rfl⟩
          go_wp2_with fail
          go_ret
          rw [HV.out]
          exact ⟨rfl, bthen hb hb2⟩
        | false =>
          have HV : Hid (errTo l (i + 1) = 0) := by rw [Hid, HGO.out]; exact wE_0 H0.out (by omega) hbit (of_decide_eq_false hm)
          rw [hm] at HPRE
          clear hm hbit hxz ht
          go_wp2_with fail
          refine (HTR.out _).mono ?_
          rintro e w2 ⟨rfl, hb2⟩
          go_wp2_with fail
          refine (HPRE.out _ (HRi.out.below (hb2.mono (Nat.le_trans hB hb.size)))).mono ?_
          rintro e w3 ⟨rfl, rfl⟩
          go_wp2_with fail
          go_roundw
          case rel => exact ⟨i + 1, by omega, by go_num, HV, bthen hb hb2⟩
          case measure => simp [intOf]; omega
    · obtain rfl : i = n := by omega
      have g1 : decide ((i : Int) < (i : Int)) = false := decide_eq_false (by omega)
      have g1' : decide (i < i) = false := decide_eq_false hlt
      have HV : Hid (codeErr l = 0) := by
        unfold Hid codeErr
        rw [if_neg (by omega), hl]; exact HE.out
      go_wp2_with fail
      go_ret
      rw [HV.out]
      exact ⟨rfl, hb⟩
end Go.Proofs.YtncakjchaniheaaDoor
