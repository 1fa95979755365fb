/- code.Front and the document's FrontCode. -/
import Derived.Test.YtmmamdjbbpeifaaDoorCdpB
import Derived.Test.YtmmamdjbbpeifaaDoorSuf0
namespace Go.Proofs.YtmmamdjbbpeifaaDoor
open Go.RowKit
def pfx (p s : List UInt8) : Bool := Lib.hasPrefix s p
theorem pfx_iff {p s : List UInt8} : pfx p s = true ↔ s.take p.length = p := by
  unfold pfx Lib.hasPrefix
  rw [List.isPrefixOf_iff_prefix, List.prefix_iff_eq_take]
  exact eq_comm
theorem pfx_len {p s : List UInt8} (h : pfx p s = true) : p.length ≤ s.length := by
  have := congrArg List.length (pfx_iff.1 h)
  rw [List.length_take] at this
  omega
/-- No word begins another one. -/
def IsFront (l : List (List UInt8)) : Prop := ∀ i k, i < l.length → k < l.length → i ≠ k → pfx (l.getD i []) (l.getD k []) = false
noncomputable def frontB (l : List (List UInt8)) : Bool := @decide (IsFront l) (Classical.propDecidable _)
theorem frontB_t {l : List (List UInt8)} (h : IsFront l) : frontB l = true := @decide_eq_true _ (Classical.propDecidable _) h
theorem frontB_f {l : List (List UInt8)} {i k : Nat} (hi : i < l.length) (hk : k < l.length) (hne : i ≠ k) (h : pfx (l.getD i []) (l.getD k []) = true) : frontB l = false :=
  @decide_eq_false _ (Classical.propDecidable _) fun hf => by rw [hf i k hi hk hne] at h; cases h
theorem list_range (l : List (List UInt8)) : (List.range l.length).map (fun i => l.getD i []) = l := by
  apply List.ext_getElem
  · simp
  · intro j h1 h2
    simp only [List.getElem_map, List.getElem_range]
    rw [List.getD_eq_getElem?_getD, List.getElem?_eq_getElem h2]; rfl
def ordP (l : List (List UInt8)) : List Nat := srtL (fun i => l.getD i []) l.length
theorem ordP_srt (l : List (List UInt8)) : Srt (fun i => l.getD i []) l.length (ordP l) := srt_is _ _
theorem sortB_ordP (l : List (List UInt8)) : sortB l = (ordP l).map fun i => l.getD i [] := by
  have h := srt_sortB (fun i => l.getD i []) l.length
  rw [list_range] at h
  exact h
def sAt (l : List (List UInt8)) (i : Nat) : List UInt8 := l.getD ((ordP l).getD i 0) []
theorem sortB_at {l : List (List UInt8)} {i : Nat} (h : i < l.length) : (sortB l).getD i [] = sAt l i := by
  rw [sortB_ordP, List.getD_eq_getElem?_getD, List.getElem?_map, List.getElem?_eq_getElem (by rw [(ordP_srt l).len]; exact h), sAt, (ordP_srt l).get h]; rfl
theorem adj_f {l : List (List UInt8)} {j : Nat} (hj : j + 1 < l.length) (h : pfx (sAt l j) (sAt l (j + 1)) = true) : frontB l = false :=
  frontB_f ((ordP_srt l).lt (by omega)) ((ordP_srt l).lt hj) (fun e => by have := (ordP_srt l).inj (show j < l.length by omega) hj e; omega) h
theorem adj_t {l : List (List UInt8)} (hc : Cod l) (h : ∀ j, j + 1 < l.length → pfx (sAt l j) (sAt l (j + 1)) = false) : frontB l = true := by
  refine frontB_t fun i k hi hk hne => ?_
  cases hp : pfx (l.getD i []) (l.getD k []) with
  | false => rfl
  | true =>
    exfalso
    obtain ⟨a, ha, ea⟩ := (ordP_srt l).sur hi
    obtain ⟨b, hb, eb⟩ := (ordP_srt l).sur hk
    have ha1 : sAt l a = l.getD i [] := by unfold sAt; rw [ea]
    have hb1 : sAt l b = l.getD k [] := by unfold sAt; rw [eb]
    have ht := pfx_iff.1 hp
    have hlen := pfx_len hp
    have hle : l.getD i [] ≤ l.getD k [] := by
      have h2 : l.getD i [] ++ (l.getD k []).drop (l.getD i []).length = l.getD k [] := by
        conv => rhs; rw [← List.take_append_drop (l.getD i []).length (l.getD k [])]
        rw [ht]
      have h3 : ∀ x y : List UInt8, x ≤ x ++ y := by
        intro x y
        induction x with
        | nil => exact List.nil_le _
        | cons c x ih => exact cons_leB.2 (.inr ⟨rfl, ih⟩)
      rw [← h2]; exact h3 _ _
    have hab : a < b := by
      rcases Nat.lt_trichotomy a b with h1 | h1 | h1
      · exact h1
      · exfalso; subst h1; rw [ea] at eb; exact hne eb
      · exfalso
        have h4 := (ordP_srt l).mono (show b ≤ a by omega) ha
        have h5 : l.getD k [] ≤ l.getD i [] := by
          have e1 : l.getD ((ordP l).getD b 0) [] = l.getD k [] := hb1
          have e2 : l.getD ((ordP l).getD a 0) [] = l.getD i [] := ha1
          have h4 : l.getD ((ordP l).getD b 0) [] ≤ l.getD ((ordP l).getD a 0) [] := h4
          rw [e1, e2] at h4
          exact h4
        exact hne (hc.inj i k hi hk (List.le_antisymm hle h5))
    have g1 : sAt l a ≤ sAt l (a + 1) := (ordP_srt l).mono (by omega) (by omega)
    have g2 : sAt l (a + 1) ≤ sAt l b := (ordP_srt l).mono (by omega) hb
    rw [ha1] at g1
    rw [hb1] at g2
    obtain ⟨m1, m2⟩ := mid_lcp (l.getD i []).length _ _ _ g1 g2 (Nat.le_refl _) hlen (by rw [List.take_length, ht])
    have := h a (by omega)
    rw [ha1] at this
    have h6 : pfx (l.getD i []) (sAt l (a + 1)) = true := pfx_iff.2 (by rw [m2, ht])
    rw [h6] at this
    cases this
set_option maxRecDepth 100000 in
set_option maxHeartbeats 4000000 in
theorem codeFront_any (A : Option Addr) (n c B : Nat) (l : List (List UInt8)) (w : World) (hr : Rd w B 1 A n (strCells l)) (hn : n ≤ c) (hB : B ≤ w.heap.size) (hx : ∀ x ∈ l, x.length ≤ maxLen) :
    Calls Tryd.prog 13 #[.slice A n c] w fun e w' => e = .returned (.tuple #[.bool (if codeErr l = 0 then frontB l else false), .int .i64 (codeErr l)]) ∧ Below w.heap.size w w' := by
  have hl : l.length = n := by have := hr.1; simpa [strCells] using this
  have HC := Lib.hid (codeCheck_any A n c B l w hr hn hB hx)
  have HR := Lib.hid hr
  clear hr
  by_cases hE : codeErr l = 0
  · have HCO := Lib.hid (cod_of hE)
    have HEE := Lib.hid hE
    have hlen := HCO.out.len
    rw [hE] at HC
    rw [if_pos hE, hE]
    clear hE
    go_enter Tryd.func13, Tryd.ntmps13
    go_wp2_with fail
    refine HC.out.mono ?_
    rintro e w1 ⟨rfl, hb1⟩
    have HR1 := Lib.hid (HR.out.below (hb1.mono hB))
    clear HR HC
    go_wp2_with fail
    go_loopw [16] (fun iv wr => ∃ i : Nat, i ≤ n ∧ iv = .int .i64 (i : Int) ∧ Hid (∀ i' k, i' < i → k < n → i' ≠ k → pfx (l.getD i' []) (l.getD k []) = false) ∧ wr = w1) (fun iv _ => n - (intOf iv).toNat)
    case atStart => exact ⟨0, Nat.zero_le _, rfl, Lib.hid (fun i' k h => by omega), rfl⟩
    case round =>
      obtain ⟨i, hi, rfl, HN, rfl⟩ := hrel
      by_cases hlt : i < n
      · have g1 : decide ((i : Int) < (n : Int)) = true := decide_eq_true (by omega)
        have g1' : decide (i < n) = true := decide_eq_true hlt
        obtain ⟨ad, rfl, hab, c0⟩ := str_cell HR1.out hlt
        obtain ⟨X, hX⟩ : ∃ X, S (l.getD i []) = X := ⟨_, rfl⟩
        rw [hX] at c0
        have HX := Lib.hid hX
        clear hX
        go_wp2_with fail
        go_loopw [23] (fun kv wr2 => ∃ k : Nat, k ≤ n ∧ kv = .int .i64 (k : Int) ∧ Hid (∀ k', k' < k → i ≠ k' → pfx (l.getD i []) (l.getD k' []) = false) ∧ wr2 = wr) (fun kv _ => n - (intOf kv).toNat)
        case atStart => exact ⟨0, Nat.zero_le _, rfl, Lib.hid (fun k' h => by omega), rfl⟩
        case round =>
          obtain ⟨k, hk, rfl, HK, rfl⟩ := hrel
          by_cases hkt : k < n
          · have g2 : decide ((k : Int) < (n : Int)) = true := decide_eq_true (by omega)
            have g2' : decide (k < n) = true := decide_eq_true hkt
            obtain ⟨ad', hA, _, c1⟩ := str_cell HR1.out hkt
            cases hA
            obtain ⟨Y, hY⟩ : ∃ Y, S (l.getD k []) = Y := ⟨_, rfl⟩
            rw [hY] at c1
            have HPX : Hid (∀ W, Calls Tryd.prog 34 #[.string Y, .string X] W fun e W' => e = .returned (.bool (pfx (l.getD i []) (l.getD k []))) ∧ W' = W) := fun W => by
              have h := Tryd.strings_HasPrefix Y X W
              rw [← hY, ← HX.out] at h ⊢
              exact h
            clear hY
            by_cases hik : i = k
            · have HK2 : Hid (∀ k', k' < k + 1 → i ≠ k' → pfx (l.getD i []) (l.getD k' []) = false) := fun k' hk' hne => by
                rcases Nat.lt_or_ge k' k with h1 | h1
                · exact HK.out k' h1 hne
                · exact absurd (show i = k' by omega) hne
              subst hik
              go_wp2_with fail
              go_roundw
              case rel => exact ⟨i + 1, by omega, by go_num, HK2, by first | rfl | trivial⟩
              case measure => simp [intOf]; omega
            · have g3 : ((i : Int) == (k : Int)) = false := by rw [beq_eq_false_iff_ne]; omega
              have g3n : ((i : Int) != (k : Int)) = true := by rw [bne, g3]; rfl
              have g3' : (i == k) = false := by rw [beq_eq_false_iff_ne]; exact hik
              cases hp : pfx (l.getD i []) (l.getD k []) with
              | true =>
                have HV := Lib.hid (frontB_f (by omega) (by omega) hik hp)
                rw [hp] at HPX
                clear hp hik
                go_wp2_with fail
                refine (HPX.out _).mono ?_
                rintro e w2 ⟨rfl, rfl⟩
                go_wp2_with fail
                go_ret2
                rw [HV.out]
                exact ⟨rfl, hb1⟩
              | false =>
                have HK2 : Hid (∀ k', k' < k + 1 → i ≠ k' → pfx (l.getD i []) (l.getD k' []) = false) := fun k' hk' hne => by
                  rcases Nat.lt_or_ge k' k with h1 | h1
                  · exact HK.out k' h1 hne
                  · obtain rfl : k' = k := by omega
                    exact hp
                rw [hp] at HPX
                clear hp hik
                go_wp2_with fail
                refine (HPX.out _).mono ?_
                rintro e w2 ⟨rfl, rfl⟩
                go_wp2_with fail
                go_roundw
                case rel => exact ⟨k + 1, by omega, by go_num, HK2, by first | rfl | trivial⟩
                case measure => simp [intOf]; omega
          · obtain rfl : k = n := by omega
            have g2 : decide ((k : Int) < (k : Int)) = false := decide_eq_false (by omega)
            have g2' : decide (k < k) = false := decide_eq_false hkt
            have HN2 : Hid (∀ i' k', i' < i + 1 → k' < k → i' ≠ k' → pfx (l.getD i' []) (l.getD k' []) = false) := fun i' k' h1 h2 h3 => by
              rcases Nat.lt_or_ge i' i with h4 | h4
              · exact HN.out i' k' h4 h2 h3
              · obtain rfl : i' = i := by omega
                exact HK.out k' h2 h3
            go_wp2_with fail
            go_roundw
            case rel => exact ⟨i + 1, by omega, by go_num, HN2, by first | rfl | trivial⟩
            case measure => simp [intOf]; omega
      · obtain rfl : i = n := by omega
        have g1 : decide ((i : Int) < (i : Int)) = false := decide_eq_false (by omega)
        have g1' : decide (i < i) = false := decide_eq_false hlt
        have HV := Lib.hid (frontB_t (l := l) fun i' k h1 h2 h3 => HN.out i' k (by omega) (by omega) h3)
        go_wp2_with fail
        go_ret2
        rw [HV.out]
        exact ⟨rfl, hb1⟩
  · rw [if_neg hE]
    obtain ⟨E, hEE⟩ : ∃ E, codeErr l = E := ⟨_, rfl⟩
    rw [hEE] at HC hE ⊢
    clear hEE
    have g1 : (E == 0) = false := by rw [beq_eq_false_iff_ne]; exact hE
    have g2 : (E != 0) = true := by rw [bne, g1]; rfl
    clear hE
    go_enter Tryd.func13, Tryd.ntmps13
    go_wp2_with fail
    refine HC.out.mono ?_
    rintro e w1 ⟨rfl, hb1⟩
    go_wp2_with fail
    go_ret2
    exact ⟨rfl, hb1⟩
end Go.Proofs.YtmmamdjbbpeifaaDoor
