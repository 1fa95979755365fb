/- slices.Index, Contains and Clone at strings, of a slice that reads as a list. -/
import Derived.Test.YtmmamdjbbpeifaaStrC
import Derived.Test.YtmmamdjbbpeifaaOwn2
namespace Go.Proofs.Ytmmamdjbbpeifaa
open Go.RowKit
theorem idx_ne (l : List (List UInt8)) (x : List UInt8) : ∀ j, j < l.idxOf x → ∀ hj : j < l.length, l[j] ≠ x := by
  intro j h hj e
  have h2 : j < l.findIdx (· == x) := h
  have := List.not_of_lt_findIdx h2
  rw [e] at this
  simp at this
def idxL2 (l : List (List UInt8)) (x : List UInt8) : Int := if x ∈ l then (l.idxOf x : Int) else -1
theorem idxL2_lt {l : List (List UInt8)} {i : Nat} (hi : i < l.length) : (idxL2 l (l.getD i []) < (i : Int)) ↔ l.getD i [] ∈ l.take i := by
  have hg : l.getD i [] = l[i] := by rw [List.getD_eq_getElem?_getD, List.getElem?_eq_getElem hi]; rfl
  rw [hg]
  unfold idxL2
  rw [if_pos (List.getElem_mem hi)]
  have hlt := List.idxOf_lt_length_of_mem (List.getElem_mem hi)
  constructor
  · intro h
    refine List.mem_take_iff_getElem.2 ⟨l.idxOf l[i], by omega, ?_⟩
    exact List.getElem_idxOf _
  · intro h
    obtain ⟨j, hj, e⟩ := List.mem_take_iff_getElem.1 h
    have h1 : l.idxOf l[i] ≤ j := by
      rcases Nat.lt_or_ge j (l.idxOf l[i]) with h2 | h2
      · exact absurd e (idx_ne _ _ _ h2 _)
      · exact h2
    omega
set_option maxRecDepth 100000 in
set_option maxHeartbeats 4000000 in
theorem index_str (A : Option Addr) (n c B : Nat) (l : List (List UInt8)) (x : ByteArray) (w : World) (hr : Rd w B 1 A n (strCells l)) (hn : n ≤ 140737488351232) :
    Calls Try.prog 53 #[.slice A n c, .string x] w fun e w' => e = .returned (.int .i64 (idxL2 l (L x))) ∧ w' = w := by
  have hl : l.length = n := by have := hr.1; simpa [strCells] using this
  have HR := Lib.hid hr
  clear hr
  go_enter Try.func53, Try.ntmps53
  go_wp2_with fail
  go_loopw [8] (fun iv wr => ∃ i : Nat, i ≤ n ∧ iv = .int .i64 (i : Int) ∧ Hid (∀ j, j < i → l.getD j [] ≠ L x) ∧ wr = w) (fun iv _ => n - (intOf iv).toNat)
  case atStart => exact ⟨0, Nat.zero_le _, rfl, Lib.hid (fun j hj => by omega), rfl⟩
  case round =>
    obtain ⟨i, hi, rfl, HN, rfl⟩ := hrel
    by_cases hlt : i < n
    · have g1 : decide ((i : Int) < (n : Int)) = true := decide_eq_true (by omega)
      have g1' : decide (i < n) = true := decide_eq_true hlt
      obtain ⟨ad, rfl, hab, c0⟩ := str_cell HR.out hlt
      obtain ⟨Y, hY⟩ : ∃ Y, S (l.getD i []) = Y := ⟨_, rfl⟩
      rw [hY] at c0
      by_cases he : l.getD i [] = L x
      · have g2 : (x.toList == Y.toList) = true := by rw [beqB, ← hY, he]; exact decide_eq_true rfl
        have HV : Hid (idxL2 l (L x) = (i : Int)) := by
          unfold Hid idxL2
          have hm : L x ∈ l := by rw [← he, List.getD_eq_getElem?_getD, List.getElem?_eq_getElem (by omega)]; exact List.getElem_mem _
          rw [if_pos hm]
          have hi2 := List.idxOf_lt_length_of_mem hm
          have h1 : l.getD (l.idxOf (L x)) [] = L x := by
            rw [List.getD_eq_getElem?_getD, List.getElem?_eq_getElem hi2]; exact List.getElem_idxOf _
          have h2 : i ≤ l.idxOf (L x) := by
            rcases Nat.lt_or_ge (l.idxOf (L x)) i with h3 | h3
            · exact absurd h1 (HN.out _ h3)
            · exact h3
          have h4 : l.idxOf (L x) ≤ i := by
            rcases Nat.lt_or_ge i (l.idxOf (L x)) with h3 | h3
            · rw [List.getD_eq_getElem?_getD, List.getElem?_eq_getElem (show i < l.length by omega)] at he
              exact absurd he (idx_ne _ _ _ h3 _)
            · exact h3
          omega
        clear he hY
        go_wp2_with fail
        go_ret
        rw [HV.out]
        exact ⟨rfl, rfl⟩
      · have g2 : (x.toList == Y.toList) = false := by
          rw [beqB, ← hY]
          exact decide_eq_false fun h => he (by rw [h]; rfl)
        have HN2 : Hid (∀ j, j < i + 1 → l.getD j [] ≠ L x) := fun j hj => by
          rcases Nat.lt_or_ge j i with h1 | h1
          · exact HN.out j h1
          · obtain rfl : j = i := by omega
            exact he
        clear he hY
        go_wp2_with fail
        go_roundw
        case rel => exact ⟨i + 1, by omega, by go_num, HN2, by first | rfl | trivial⟩
        case measure => simp [intOf]; omega
    · obtain rfl : i = n := by omega
      have g1 : decide ((i : Int) < (i : Int)) = false := decide_eq_false (by omega)
      have g1' : decide (i < i) = false := decide_eq_false hlt
      have HV : Hid (idxL2 l (L x) = -1) := by
        unfold Hid idxL2
        rw [if_neg]
        intro hm
        obtain ⟨j, hj, e⟩ := List.mem_iff_getElem.1 hm
        exact HN.out j (by omega) (by rw [List.getD_eq_getElem?_getD, List.getElem?_eq_getElem hj]; exact e)
      go_wp2_with fail
      go_ret
      rw [HV.out]
      exact ⟨rfl, rfl⟩
set_option maxHeartbeats 2000000 in
theorem contains_str (A : Option Addr) (n c B : Nat) (l : List (List UInt8)) (x : ByteArray) (w : World) (hr : Rd w B 1 A n (strCells l)) (hn : n ≤ 140737488351232) :
    Calls Try.prog 54 #[.slice A n c, .string x] w fun e w' => e = .returned (.bool (decide (L x ∈ l))) ∧ w' = w := by
  have HC := Lib.hid (index_str A n c B l x w hr hn)
  have HV : Hid (decide (0 ≤ idxL2 l (L x)) = decide (L x ∈ l)) := by
    unfold Hid idxL2
    by_cases h : L x ∈ l
    · rw [if_pos h]; simp [h]
    · rw [if_neg h]; simp [h]
  clear hr
  generalize idxL2 l (L x) = z at *
  generalize decide (L x ∈ l) = b at *
  go_enter Try.func54, Try.ntmps54
  go_wp2_with fail
  refine HC.out.mono ?_
  rintro e w1 ⟨rfl, rfl⟩
  go_wp2_with fail
  go_ret
  exact ⟨ret_bool HV.out, rfl⟩
end Go.Proofs.Ytmmamdjbbpeifaa
