/- trie.Check and the document's PatsErr. -/
import Derived.Test.YtmmamdjbbpeifaaCdpA
import Derived.Test.YtmmamdjbbpeifaaTri0
namespace Go.Proofs.Ytmmamdjbbpeifaa
open Go.RowKit
def tE (pre : List (List UInt8)) (w : List UInt8) : Int :=
  if w = [] then 5 else if 20 < w.length then 2 else if w ∈ pre then 10 else 0
def tErrTo (l : List (List UInt8)) : Nat → Int
  | 0 => 0
  | i + 1 => if tErrTo l i = 0 then tE (l.take i) (l.getD i []) else tErrTo l i
def patErr (l : List (List UInt8)) : Int := if 10 < l.length then 2 else tErrTo l l.length
theorem tErrTo_go {l : List (List UInt8)} {i : Nat} (h : tErrTo l i = 0) : tErrTo l (i + 1) = tE (l.take i) (l.getD i []) := by rw [tErrTo, if_pos h]
theorem tErrTo_stay {l : List (List UInt8)} {i n : Nat} {e : Int} (h : tErrTo l i = e) (he : e ≠ 0) (hn : i ≤ n) : tErrTo l n = e := by
  induction n with
  | zero =>
    obtain rfl : i = 0 := by omega
    exact h
  | succ n ih =>
    rcases Nat.lt_or_ge i (n + 1) with h1 | h1
    · have := ih (by omega)
      rw [tErrTo, if_neg (by rw [this]; exact he)]
      exact this
    · obtain rfl : i = n + 1 := by omega
      exact h
theorem patErr_bad {l : List (List UInt8)} {i : Nat} {e : Int} (hl : l.length ≤ 10) (h : tErrTo l i = 0) (hi : i < l.length) (hw : tE (l.take i) (l.getD i []) = e) (he : e ≠ 0) : patErr l = e := by
  unfold patErr
  rw [if_neg (by omega)]
  exact tErrTo_stay (i := i + 1) (by rw [tErrTo_go h, hw]) he hi
theorem tE_5 {pre : List (List UInt8)} : tE pre [] = 5 := if_pos rfl
theorem tE_2 {pre : List (List UInt8)} {w : List UInt8} (h : 20 < w.length) : tE pre w = 2 := by
  unfold tE
  rw [if_neg (fun e => by rw [e] at h; simp at h), if_pos h]
theorem tE_10 {pre : List (List UInt8)} {w : List UInt8} (h0 : w ≠ []) (h : w.length ≤ 20) (hp : w ∈ pre) : tE pre w = 10 := by
  unfold tE
  rw [if_neg h0, if_neg (by omega), if_pos hp]
theorem tE_0 {pre : List (List UInt8)} {w : List UInt8} (h0 : w ≠ []) (h : w.length ≤ 20) (hp : w ∉ pre) : tE pre w = 0 := by
  unfold tE
  rw [if_neg h0, if_neg (by omega), if_neg hp]
theorem tE_ok {pre : List (List UInt8)} {w : List UInt8} (h : tE pre w = 0) : w ≠ [] ∧ w.length ≤ 20 ∧ w ∉ pre := by
  unfold tE at h
  by_cases h0 : w = []
  · rw [if_pos h0] at h; cases h
  rw [if_neg h0] at h
  by_cases h1 : 20 < w.length
  · rw [if_pos h1] at h; cases h
  rw [if_neg h1] at h
  by_cases h3 : w ∈ pre
  · rw [if_pos h3] at h; cases h
  exact ⟨h0, by omega, h3⟩
theorem tErrTo_all {l : List (List UInt8)} : ∀ {n}, tErrTo l n = 0 → ∀ i, i < n → tE (l.take i) (l.getD i []) = 0 := by
  intro n
  induction n with
  | zero => intro _ i hi; omega
  | succ n ih =>
    intro h i hi
    have h0 : tErrTo l n = 0 := by
      by_cases h1 : tErrTo l n = 0
      · exact h1
      · rw [tErrTo, if_neg h1] at h; exact absurd h h1
    rcases Nat.lt_or_ge i n with h2 | h2
    · exact ih h0 i h2
    · obtain rfl : i = n := by omega
      rw [tErrTo_go h0] at h; exact h
/-- What the words are like where nothing is wrong. -/
theorem pat_of {l : List (List UInt8)} (h : patErr l = 0) : l.length ≤ 10 ∧ l.Nodup ∧ ∀ p ∈ l, p ≠ [] ∧ p.length ≤ 20 := by
  unfold patErr at h
  by_cases h1 : 10 < l.length
  · rw [if_pos h1] at h; cases h
  rw [if_neg h1] at h
  have ha := tErrTo_all h
  refine ⟨by omega, ?_, ?_⟩
  · rw [List.nodup_iff_pairwise_ne, List.pairwise_iff_getElem]
    intro i j hi hj hij e
    have h2 := (tE_ok (ha j hj)).2.2
    rw [List.getD_eq_getElem?_getD, List.getElem?_eq_getElem hj] at h2
    refine h2 ?_
    show l[j] ∈ _
    rw [← e, List.mem_take_iff_getElem]
    exact ⟨i, by omega, rfl⟩
  · intro p hp
    obtain ⟨i, hi⟩ := List.getElem?_of_mem hp
    have hl := (List.getElem?_eq_some_iff.1 hi).1
    have h2 := tE_ok (ha i hl)
    rw [List.getD_eq_getElem?_getD, hi] at h2
    exact ⟨h2.1, h2.2.1⟩
theorem empF (p : ByteArray) : (p.size = 0 → (p.toList == []) = true ∧ p.toList.isEmpty = true) ∧ (p.size ≠ 0 → (p.toList == []) = false ∧ p.toList.isEmpty = false) := by
  constructor
  · intro h0
    have hpe : p.data.toList = [] := List.eq_nil_of_length_eq_zero (by rw [blen]; exact h0)
    rw [ByteArray.toList_eq, hpe]
    exact ⟨rfl, rfl⟩
  · intro h0
    have hpe : p.data.toList ≠ [] := fun h => h0 (by rw [← blen, h]; rfl)
    rw [ByteArray.toList_eq]
    exact ⟨by rw [beq_eq_false_iff_ne]; exact hpe, by rw [List.isEmpty_eq_false_iff]; exact hpe⟩
theorem strCells_preT (l : List (List UInt8)) (k : Nat) : (strCells l).take k = strCells (l.take k) := by simp [strCells, List.map_take]
theorem Rd.preT {w : World} {B n k : Nat} {A : Option Addr} {l : List (List UInt8)} (h : Rd w B 1 A n (strCells l)) (hk : k ≤ n) : Rd w B 1 A k (strCells (l.take k)) := by
  refine ⟨?_, fun h0 => ?_⟩
  · have := h.1
    simp only [strCells, List.length_map] at this ⊢
    rw [List.length_take]; omega
  · obtain ⟨ad, h1, h2, h3⟩ := h.2 (by omega)
    refine ⟨ad, h1, h2, fun j u hu => h3 j u ?_⟩
    rw [← strCells_preT] at hu
    rw [List.getElem?_take] at hu
    split at hu
    · exact hu
    · cases hu
set_option maxRecDepth 100000 in
set_option maxHeartbeats 8000000 in
theorem trieCheck_any (A : Option Addr) (n c B : Nat) (l : List (List UInt8)) (w : World) (hr : Rd w B 1 A n (strCells l)) (hn : n ≤ c) (hnc : n ≤ 140737488351232) (hx : ∀ x ∈ l, x.length ≤ maxLen) :
    Calls Try.prog 25 #[.slice A n c] w fun e w' => e = .returned (.int .i64 (patErr l)) ∧ w' = w := by
  have hl : l.length = n := by have := hr.1; simpa [strCells] using this
  have hml : maxLen ≤ 9223372036854775807 := by decide
  have HR := Lib.hid hr
  clear hr
  by_cases hbig : 10 < n
  · have HE : Hid (patErr l = 2) := by unfold Hid patErr; rw [if_pos (by omega)]
    have g1 : decide ((10 : Int) < (n : Int)) = true := decide_eq_true (by omega)
    have g1' : decide (10 < n) = true := decide_eq_true hbig
    go_enter Try.func25, Try.ntmps25
    go_wp2_with fail
    go_ret
    rw [HE.out]
    exact ⟨rfl, rfl⟩
  have g0 : decide ((10 : Int) < (n : Int)) = false := decide_eq_false (by omega)
  have g0' : decide (10 < n) = false := decide_eq_false hbig
  go_enter Try.func25, Try.ntmps25
  go_wp2_with fail
  go_loopw [10] (fun iv wr => ∃ i : Nat, i ≤ n ∧ iv = .int .i64 (i : Int) ∧ Hid (tErrTo l i = 0) ∧ wr = w) (fun iv _ => n - (intOf iv).toNat)
  case atStart => exact ⟨0, Nat.zero_le _, rfl, rfl, rfl⟩
  case round =>
    obtain ⟨i, hi, rfl, HE, rfl⟩ := hrel
    by_cases hlt : i < n
    · have g1 : decide ((i : Int) < (n : Int)) = true := decide_eq_true (by omega)
      have g1' : decide (i < n) = true := decide_eq_true hlt
      have hxi : (l.getD i []).length ≤ maxLen := hx _ (by rw [List.getD_eq_getElem?_getD, List.getElem?_eq_getElem (by omega)]; exact List.getElem_mem _)
      obtain ⟨ad, rfl, hab, c0⟩ := str_cell HR.out hlt
      have HRi := Lib.hid (HR.out.preT (k := i) hi)
      have HBAD : Hid (∀ e : Int, tE (l.take i) (l.getD i []) = e → e ≠ 0 → patErr l = e) := fun e h1 h2 => patErr_bad (by omega) HE.out (by omega) h1 h2
      have HGO := Lib.hid (tErrTo_go HE.out)
      clear HE
      obtain ⟨u, hu⟩ : ∃ u, l.getD i [] = u := ⟨_, rfl⟩
      rw [hu] at c0 HBAD HGO hxi
      have HPRE : Hid (Calls Try.prog 54 #[.slice (some ad) i c, .string (S u)] wr fun e w' => e = .returned (.bool (decide (u ∈ l.take i))) ∧ w' = wr) := contains_str (some ad) i c B (l.take i) (S u) wr HRi.out (by omega)
      generalize l.take i = pre at *
      clear hu
      obtain ⟨X, hX⟩ : ∃ X, S u = X := ⟨_, rfl⟩
      have hxz : X.size = u.length := by rw [← hX, S_size]
      rw [hX] at c0 HPRE
      clear hX
      by_cases h0 : u = []
      · have hz : X.size = 0 := by rw [hxz, h0]; rfl
        obtain ⟨g2, g3⟩ := (empF X).1 hz
        have HV := Lib.hid (HBAD.out 5 (by rw [h0]; exact tE_5) (by decide))
        clear h0 hxz
        go_wp2_with fail
        go_ret
        rw [HV.out]
        exact ⟨rfl, rfl⟩
      obtain ⟨g2, g3⟩ := (empF X).2 (by rw [hxz]; intro h; exact h0 (List.eq_nil_of_length_eq_zero h))
      have H0 := Lib.hid h0
      clear h0
      by_cases h1 : 20 < u.length
      · have g4 : decide ((20 : Int) < (X.size : Int)) = true := decide_eq_true (by omega)
        have g4' : decide (20 < X.size) = true := decide_eq_true (by omega)
        have HV := Lib.hid (HBAD.out 2 (tE_2 h1) (by decide))
        clear h1 hxz
        go_wp2_with fail
        go_ret
        rw [HV.out]
        exact ⟨rfl, rfl⟩
      have g4 : decide ((20 : Int) < (X.size : Int)) = false := decide_eq_false (by omega)
      have g4' : decide (20 < X.size) = false := decide_eq_false (by omega)
      by_cases hm : u ∈ pre
      · rw [show decide (u ∈ pre) = true from decide_eq_true hm] at HPRE
        have HV := Lib.hid (HBAD.out 10 (tE_10 H0.out (by omega) (hm)) (by decide))
        clear hm hxz
        go_wp2_with fail
        refine HPRE.out.mono ?_
        rintro e w3 ⟨rfl, rfl⟩
        go_wp2_with fail
        go_ret
        rw [HV.out]
        exact ⟨rfl, rfl⟩
      · rw [show decide (u ∈ pre) = false from decide_eq_false hm] at HPRE
        have HV : Hid (tErrTo l (i + 1) = 0) := by rw [Hid, HGO.out]; exact tE_0 H0.out (by omega) (hm)
        clear hm hxz
        go_wp2_with fail
        refine HPRE.out.mono ?_
        rintro e w3 ⟨rfl, rfl⟩
        go_wp2_with fail
        go_roundw
        case rel => exact ⟨i + 1, by omega, by go_num, HV, by first | rfl | trivial⟩
        case measure => simp [intOf]; omega
    · obtain rfl : i = n := by omega
      have g1 : decide ((i : Int) < (i : Int)) = false := decide_eq_false (by omega)
      have g1' : decide (i < i) = false := decide_eq_false hlt
      have HV : Hid (patErr l = 0) := by
        unfold Hid patErr
        rw [if_neg (by omega), hl]; exact HE.out
      go_wp2_with fail
      go_ret
      rw [HV.out]
      exact ⟨rfl, rfl⟩
set_option maxRecDepth 100000 in
set_option maxHeartbeats 8000000 in
theorem patsErr_any (A : Option Addr) (n c B : Nat) (l : List (List UInt8)) (w : World) (hr : Rd w B 1 A n (strCells l)) (hn : n ≤ 9223372036854775807) (hnc : n ≤ 140737488351232) (hx : ∀ x ∈ l, x.length ≤ maxLen) :
    Calls Try.prog 24 #[.slice A n c] w fun e w' => e = .returned (.int .i64 (patErr l)) ∧ w' = w := by
  have hl : l.length = n := by have := hr.1; simpa [strCells] using this
  have hml : maxLen ≤ 9223372036854775807 := by decide
  have HR := Lib.hid hr
  clear hr
  by_cases hbig : 10 < n
  · have HE : Hid (patErr l = 2) := by unfold Hid patErr; rw [if_pos (by omega)]
    have g1 : decide ((10 : Int) < (n : Int)) = true := decide_eq_true (by omega)
    have g1' : decide (10 < n) = true := decide_eq_true hbig
    go_enter Try.func24, Try.ntmps24
    go_wp2_with fail
    go_ret
    rw [HE.out]
    exact ⟨rfl, rfl⟩
  have g0 : decide ((10 : Int) < (n : Int)) = false := decide_eq_false (by omega)
  have g0' : decide (10 < n) = false := decide_eq_false hbig
  go_enter Try.func24, Try.ntmps24
  go_wp2_with fail
  go_loopw [10] (fun iv wr => ∃ i : Nat, i ≤ n ∧ iv = .int .i64 (i : Int) ∧ Hid (tErrTo l i = 0) ∧ wr = w) (fun iv _ => n - (intOf iv).toNat)
  case atStart => exact ⟨0, Nat.zero_le _, rfl, rfl, rfl⟩
  case round =>
    obtain ⟨i, hi, rfl, HE, rfl⟩ := hrel
    by_cases hlt : i < n
    · have g1 : decide ((i : Int) < (n : Int)) = true := decide_eq_true (by omega)
      have g1' : decide (i < n) = true := decide_eq_true hlt
      have hxi : (l.getD i []).length ≤ maxLen := hx _ (by rw [List.getD_eq_getElem?_getD, List.getElem?_eq_getElem (by omega)]; exact List.getElem_mem _)
      obtain ⟨ad, rfl, hab, c0⟩ := str_cell HR.out hlt
      have HBAD : Hid (∀ e : Int, tE (l.take i) (l.getD i []) = e → e ≠ 0 → patErr l = e) := fun e h1 h2 => patErr_bad (by omega) HE.out (by omega) h1 h2
      have HGO := Lib.hid (tErrTo_go HE.out)
      have HIX := Lib.hid (idxL2_lt (l := l) (i := i) (by omega))
      clear HE
      obtain ⟨u, hu⟩ : ∃ u, l.getD i [] = u := ⟨_, rfl⟩
      rw [hu] at c0 HBAD HGO hxi HIX
      have HPRE := Lib.hid (index_str (some ad) n c B l (S u) wr HR.out (by omega))
      rw [L_S] at HPRE
      generalize idxL2 l u = z at *
      generalize l.take i = pre at *
      clear hu
      obtain ⟨X, hX⟩ : ∃ X, S u = X := ⟨_, rfl⟩
      have hxz : X.size = u.length := by rw [← hX, S_size]
      rw [hX] at c0 HPRE
      clear hX
      by_cases h0 : u = []
      · have hz : X.size = 0 := by rw [hxz, h0]; rfl
        obtain ⟨g2, g3⟩ := (empF X).1 hz
        have HV := Lib.hid (HBAD.out 5 (by rw [h0]; exact tE_5) (by decide))
        clear h0 hxz
        go_wp2_with fail
        go_ret
        rw [HV.out]
        exact ⟨rfl, rfl⟩
      obtain ⟨g2, g3⟩ := (empF X).2 (by rw [hxz]; intro h; exact h0 (List.eq_nil_of_length_eq_zero h))
      have H0 := Lib.hid h0
      clear h0
      by_cases h1 : 20 < u.length
      · have g4 : decide ((20 : Int) < (X.size : Int)) = true := decide_eq_true (by omega)
        have g4' : decide (20 < X.size) = true := decide_eq_true (by omega)
        have HV := Lib.hid (HBAD.out 2 (tE_2 h1) (by decide))
        clear h1 hxz
        go_wp2_with fail
        go_ret
        rw [HV.out]
        exact ⟨rfl, rfl⟩
      have g4 : decide ((20 : Int) < (X.size : Int)) = false := decide_eq_false (by omega)
      have g4' : decide (20 < X.size) = false := decide_eq_false (by omega)
      by_cases hm : z < (i : Int)
      · have g6 : decide (z < (i : Int)) = true := decide_eq_true hm
        have HV := Lib.hid (HBAD.out 10 (tE_10 H0.out (by omega) (HIX.out.1 hm)) (by decide))
        clear hm hxz
        go_wp2_with fail
        refine HPRE.out.mono ?_
        rintro e w3 ⟨rfl, rfl⟩
        go_wp2_with fail
        go_ret
        rw [HV.out]
        exact ⟨rfl, rfl⟩
      · have g6 : decide (z < (i : Int)) = false := decide_eq_false hm
        have HV : Hid (tErrTo l (i + 1) = 0) := by rw [Hid, HGO.out]; exact tE_0 H0.out (by omega) (fun h => hm (HIX.out.2 h))
        clear hm hxz
        go_wp2_with fail
        refine HPRE.out.mono ?_
        rintro e w3 ⟨rfl, rfl⟩
        go_wp2_with fail
        go_roundw
        case rel => exact ⟨i + 1, by omega, by go_num, HV, by first | rfl | trivial⟩
        case measure => simp [intOf]; omega
    · obtain rfl : i = n := by omega
      have g1 : decide ((i : Int) < (i : Int)) = false := decide_eq_false (by omega)
      have g1' : decide (i < i) = false := decide_eq_false hlt
      have HV : Hid (patErr l = 0) := by
        unfold Hid patErr
        rw [if_neg (by omega), hl]; exact HE.out
      go_wp2_with fail
      go_ret
      rw [HV.out]
      exact ⟨rfl, rfl⟩
end Go.Proofs.Ytmmamdjbbpeifaa
