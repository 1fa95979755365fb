/- What a row of lengths costs: tree.Cost and the law's own function. -/
import Derived.Test.YtmmamdjbbpeifaaTreG
import Derived.Test.YtmmamdjbbpeifaaCodeW
import Derived.Test.YtmmamdjbbpeifaaBlk
namespace Go.Proofs.Ytmmamdjbbpeifaa
open Go.RowKit
def costTo (ws ls : List Int) : Nat → Int
  | 0 => 0
  | k + 1 => costTo ws ls k + ws.getD k 0 * ls.getD k 0
theorem costTo_bd {ws ls : List Int} {n : Nat} (hw : ∀ k, k < n → 0 ≤ ws.getD k 0 ∧ ws.getD k 0 ≤ 10000) (hl : ∀ k, k < n → 0 ≤ ls.getD k 0 ∧ ls.getD k 0 ≤ 12) : ∀ k, k ≤ n → 0 ≤ costTo ws ls k ∧ costTo ws ls k ≤ 120000 * (k : Int) := by
  intro k
  induction k with
  | zero => intro _; exact ⟨Int.le_refl _, by simp [costTo]⟩
  | succ k ih =>
    intro hk
    obtain ⟨h1, h2⟩ := ih (by omega)
    obtain ⟨h3, h4⟩ := hw k (by omega)
    obtain ⟨h5, h6⟩ := hl k (by omega)
    have h7 : 0 ≤ ws.getD k 0 * ls.getD k 0 := Int.mul_nonneg h3 h5
    have h8 : ws.getD k 0 * ls.getD k 0 ≤ 10000 * 12 := Int.mul_le_mul h4 h6 h5 (by omega)
    unfold costTo
    omega
set_option maxRecDepth 100000 in
set_option maxHeartbeats 4000000 in
theorem lawCost_any (ws ls : List Int) (A A2 : Option Addr) (m c ml c2 B b : Nat) (w : World) (hrw : Rd w B 1 A m (ints ws)) (hrl : Rd w B 1 A2 ml (ints ls)) (hml : m = ml) (hm : m ≤ 12)
    (hbw : ∀ k, k < m → 0 ≤ ws.getD k 0 ∧ ws.getD k 0 ≤ 10000) (hbl : ∀ k, k < m → 0 ≤ ls.getD k 0 ∧ ls.getD k 0 ≤ 12) (hc : w.cell? ⟨b, 0, none⟩ = some (.slice A m c)) :
    Calls Try.prog 35 #[.slice A2 ml c2, .pointer (some ⟨b, 0, none⟩)] w fun e w' => e = .returned (.int .i64 (costTo ws ls m)) ∧ w' = w := by
  subst hml
  have HRW := Lib.hid hrw
  have HRL := Lib.hid hrl
  have HBW := Lib.hid hbw
  have HBL := Lib.hid hbl
  clear hrw hrl hbw hbl
  go_enter Try.func35, Try.ntmps35
  go_wp2_with fail
  go_loopw [4, 9] (fun sv iv wr => ∃ k : Nat, k ≤ m ∧ sv = .int .i64 (costTo ws ls k) ∧ iv = .int .i64 (k : Int) ∧ wr = w) (fun _ iv _ => m - (intOf iv).toNat)
  case atStart => exact ⟨0, Nat.zero_le _, rfl, rfl, rfl⟩
  case round =>
    obtain ⟨k, hk, rfl, rfl, rfl⟩ := hrel
    by_cases hlt : k < m
    · have g1 : decide ((k : Int) < (m : Int)) = true := decide_eq_true (by omega)
      have g1' : decide (k < m) = true := decide_eq_true hlt
      obtain ⟨aw, rfl, c0⟩ := intAt HRW.out hlt
      obtain ⟨al, rfl, c1⟩ := intAt HRL.out hlt
      obtain ⟨h3, h4⟩ := HBW.out k hlt
      obtain ⟨h5, h6⟩ := HBL.out k hlt
      obtain ⟨h7, h8⟩ := costTo_bd HBW.out HBL.out k (by omega)
      have h9 : 0 ≤ ws.getD k 0 * ls.getD k 0 := Int.mul_nonneg h3 h5
      have h10 : ws.getD k 0 * ls.getD k 0 ≤ 10000 * 12 := Int.mul_le_mul h4 h6 h5 (by omega)
      have HST : Hid (costTo ws ls (k + 1) = costTo ws ls k + ws.getD k 0 * ls.getD k 0) := rfl
      generalize costTo ws ls k = sm at *
      generalize ws.getD k 0 = x at *
      generalize ls.getD k 0 = y at *
      go_wp2_with fail
      go_roundw
      case rel => exact ⟨k + 1, by omega, by rw [HST.out], by go_num, by first | rfl | trivial⟩
      case measure => simp [intOf]; omega
    · have hke : Hid (k = m) := by unfold Hid; omega
      have g1 : decide ((k : Int) < (m : Int)) = false := decide_eq_false (by omega)
      have g1' : decide (k < m) = false := decide_eq_false hlt
      go_wp2_with fail
      go_ret
      rw [hke.out]
      exact ⟨rfl, rfl⟩
theorem wErr_bd {l : List Int} (h : wErr l = 0) : l.length ≤ 12 ∧ ∀ k, k < l.length → 1 ≤ l.getD k 0 ∧ l.getD k 0 ≤ 10000 := by
  unfold wErr at h
  by_cases h1 : 12 < l.length
  · rw [if_pos h1] at h; cases h
  · rw [if_neg h1] at h
    refine ⟨by omega, fun k hk => ?_⟩
    by_cases h2 : l.any badW = true
    · rw [if_pos h2] at h; cases h
    · have h3 := List.any_eq_false.1 (by simpa using h2) l[k] (List.getElem_mem hk)
      rw [List.getD_eq_getElem?_getD, List.getElem?_eq_getElem hk]
      show 1 ≤ l[k] ∧ l[k] ≤ 10000
      have h4 : badW l[k] = false := by simpa using h3
      have := of_decide_eq_false h4
      omega
theorem lensGo_bd : ∀ {l : List Int} {x : Int}, (lensGo x l).2 = 0 → ∀ k, k < l.length → 1 ≤ l.getD k 0 ∧ l.getD k 0 ≤ 12 := by
  intro l
  induction l with
  | nil => intro x _ k hk; simp at hk
  | cons y l ih =>
    intro x h k hk
    rw [lensGo] at h
    by_cases h1 : y < 1 ∨ 12 < y
    · rw [if_pos h1] at h; cases h
    · rw [if_neg h1] at h
      cases k with
      | zero => show 1 ≤ y ∧ y ≤ 12; omega
      | succ k => exact ih h k (by simpa using hk)
theorem lensErr_bd {l : List Int} (h : (lensErr l).2 = 0) : l.length ≤ 12 ∧ ∀ k, k < l.length → 1 ≤ l.getD k 0 ∧ l.getD k 0 ≤ 12 := by
  unfold lensErr at h
  by_cases h1 : 12 < l.length
  · rw [if_pos h1] at h; cases h
  · rw [if_neg h1] at h
    exact ⟨by omega, lensGo_bd h⟩
def costAns (ws ls : List Int) : Int × Int := if wErr ws ≠ 0 then (0, wErr ws) else if (lensErr ls).2 ≠ 0 then (0, (lensErr ls).2) else if ls.length ≠ ws.length then (0, 3) else (costTo ws ls ws.length, 0)
set_option maxRecDepth 100000 in
set_option maxHeartbeats 8000000 in
theorem treeCost_any (ws ls : List Int) (A A2 : Option Addr) (m c ml c2 B : Nat) (w : World) (hrw : Rd w B 1 A m (ints ws)) (hrl : Rd w B 1 A2 ml (ints ls)) (hB : B ≤ w.heap.size) (hm : m ≤ 9223372036854775807) (hm2 : ml ≤ 9223372036854775807) :
    Calls Try.prog 31 #[.slice A m c, .slice A2 ml c2] w fun e w' => e = .returned (.tuple #[.int .i64 (costAns ws ls).1, .int .i64 (costAns ws ls).2]) ∧ Below w.heap.size w w' := by
  have hwl : ws.length = m := by have := hrw.1; simpa [ints] using this
  have hll : ls.length = ml := by have := hrl.1; simpa [ints] using this
  have HCK := Lib.hid (treeCheck_any ws A m c B w hrw hm)
  have HCS := Lib.hid (coSum_any ls A2 ml c2 B w hrl hm2)
  by_cases h1 : wErr ws = 0
  · by_cases h2 : (lensErr ls).2 = 0
    · obtain ⟨hb1, hb2⟩ := wErr_bd h1
      obtain ⟨hb3, hb4⟩ := lensErr_bd h2
      rw [h1] at HCK
      rw [h2] at HCS
      generalize (lensErr ls).1 = sm0 at *
      by_cases h3 : ml = m
      · subst h3
        have HV : Hid (costAns ws ls = (costTo ws ls ml, 0)) := by
          unfold Hid costAns
          rw [if_neg (by simp [h1]), if_neg (by simp [h2]), if_neg (by omega), hwl]
        have HRW := Lib.hid hrw
        have HRL := Lib.hid hrl
        have HBW : Hid (∀ k, k < ml → 0 ≤ ws.getD k 0 ∧ ws.getD k 0 ≤ 10000) := fun k hk => by have := hb2 k (by omega); omega
        have HBL : Hid (∀ k, k < ml → 0 ≤ ls.getD k 0 ∧ ls.getD k 0 ≤ 12) := fun k hk => by have := hb4 k (by omega); omega
        have g1 : ((ml : Int) != (ml : Int)) = false := by simp
        have hm12 : ml ≤ 12 := by omega
        clear hrw hrl h1 h2 hb2 hb4 hwl hll hb1 hb3
        go_enter Try.func31, Try.ntmps31
        go_wp2_with fail
        refine HCK.out.mono ?_
        rintro e w1 ⟨rfl, hw1⟩
        rw [hw1]
        clear hw1 w1
        go_wp2_with fail
        refine HCS.out.mono ?_
        rintro e w2 ⟨rfl, hb2⟩
        go_wp2_with fail
        go_loopw [9, 32] (fun sv iv wr => ∃ k : Nat, k ≤ ml ∧ sv = .int .i64 (costTo ws ls k) ∧ iv = .int .i64 (k : Int) ∧ Below w.heap.size w wr) (fun _ iv _ => ml - (intOf iv).toNat)
        case atStart => exact ⟨0, Nat.zero_le _, rfl, rfl, hb2⟩
        case round =>
          obtain ⟨k, hk, rfl, rfl, hb⟩ := hrel
          by_cases hlt : k < ml
          · have g1 : decide ((k : Int) < (ml : Int)) = true := decide_eq_true (by omega)
            have g1' : decide (k < ml) = true := decide_eq_true hlt
            obtain ⟨aw, rfl, c0⟩ := intAt (HRW.out.below (hb.mono hB)) hlt
            obtain ⟨al, rfl, c1⟩ := intAt (HRL.out.below (hb.mono hB)) hlt
            obtain ⟨h3, h4⟩ := HBW.out k hlt
            obtain ⟨h5, h6⟩ := HBL.out k hlt
            obtain ⟨h7, h8⟩ := costTo_bd HBW.out HBL.out k (by omega)
            have h9 : 0 ≤ ws.getD k 0 * ls.getD k 0 := Int.mul_nonneg h3 h5
            have h10 : ws.getD k 0 * ls.getD k 0 ≤ 10000 * 12 := Int.mul_le_mul h4 h6 h5 (by omega)
            have HST : Hid (costTo ws ls (k + 1) = costTo ws ls k + ws.getD k 0 * ls.getD k 0) := rfl
            generalize costTo ws ls k = sm at *
            generalize ws.getD k 0 = x at *
            generalize ls.getD k 0 = y at *
            go_wp2_with fail
            go_roundw
            case rel => exact ⟨k + 1, by omega, by rw [HST.out], by go_num, hb⟩
            case measure => simp [intOf]; omega
          · have hke : Hid (k = ml) := by unfold Hid; omega
            have g1 : decide ((k : Int) < (ml : Int)) = false := decide_eq_false (by omega)
            have g1' : decide (k < ml) = false := decide_eq_false hlt
            go_wp2_with fail
            go_ret2
            rw [HV.out, hke.out]
            exact ⟨rfl, hb⟩
      · have HV : Hid (costAns ws ls = (0, 3)) := by
          unfold Hid costAns
          rw [if_neg (by simp [h1]), if_neg (by simp [h2]), if_pos (by omega)]
        have g1 : ((ml : Int) != (m : Int)) = true := by rw [bne_iff_ne]; omega
        have g2 : ((ml : Int) == (m : Int)) = false := by rw [beq_eq_false_iff_ne]; omega
        clear hrw hrl h1 h2 hb2 hb4 hwl hll hb1 hb3 h3
        go_enter Try.func31, Try.ntmps31
        go_wp2_with fail
        refine HCK.out.mono ?_
        rintro e w1 ⟨rfl, hw1⟩
        rw [hw1]
        clear hw1 w1
        go_wp2_with fail
        refine HCS.out.mono ?_
        rintro e w2 ⟨rfl, hb2⟩
        go_wp2_with fail
        go_ret2
        rw [HV.out]
        exact ⟨rfl, hb2⟩
    · have HV : Hid (costAns ws ls = (0, (lensErr ls).2)) := by
        unfold Hid costAns
        rw [if_neg (by simp [h1]), if_pos h2]
      rw [h1] at HCK
      have g1 : ((lensErr ls).2 != (0 : Int)) = true := by rw [bne_iff_ne]; exact h2
      clear hrw hrl h1 h2 hwl hll
      generalize (lensErr ls).1 = sm0 at *
      generalize (lensErr ls).2 = er at *
      go_enter Try.func31, Try.ntmps31
      go_wp2_with fail
      refine HCK.out.mono ?_
      rintro e w1 ⟨rfl, hw1⟩
      rw [hw1]
      clear hw1 w1
      go_wp2_with fail
      refine HCS.out.mono ?_
      rintro e w2 ⟨rfl, hb2⟩
      go_wp2_with fail
      go_ret2
      rw [HV.out]
      exact ⟨rfl, hb2⟩
  · have HV : Hid (costAns ws ls = (0, wErr ws)) := by
      unfold Hid costAns
      rw [if_pos h1]
    have g1 : (wErr ws != (0 : Int)) = true := by rw [bne_iff_ne]; exact h1
    clear hrw hrl h1 hwl hll HCS
    generalize wErr ws = er at *
    go_enter Try.func31, Try.ntmps31
    go_wp2_with fail
    refine HCK.out.mono ?_
    rintro e w1 ⟨rfl, hw1⟩
    rw [hw1]
    clear hw1 w1
    go_wp2_with fail
    go_ret2
    rw [HV.out]
    exact ⟨rfl, Below.refl _ _⟩
end Go.Proofs.Ytmmamdjbbpeifaa
