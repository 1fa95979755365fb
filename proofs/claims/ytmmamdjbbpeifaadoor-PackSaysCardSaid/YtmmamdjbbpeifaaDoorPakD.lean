/- The document's RowsOf. -/
import Derived.Test.YtmmamdjbbpeifaaDoorPakC
import Derived.Test.YtmmamdjbbpeifaaDoorMapII
namespace Go.Proofs.YtmmamdjbbpeifaaDoor
open Go.RowKit Go.Maps
/-- The counts while the place p + 1 is being filled: j words are done. -/
def stC (l : List (List UInt8)) (s : List UInt8) (p j i : Nat) : Nat := if i ≤ p then cntC l s i else if i = p + 1 then sumF (trm l s (cntC l s) (p + 1)) j else 0
theorem stC_start (l : List (List UInt8)) (s : List UInt8) (i : Nat) : stC l s 0 0 i = if i = 0 then 1 else 0 := by
  unfold stC
  by_cases h : i = 0
  · subst h; rfl
  · rw [if_neg (by omega), if_neg h]
    split <;> rfl
theorem stC_next {l : List (List UInt8)} {s : List UInt8} (hc : Cod l) (p i : Nat) : stC l s p l.length i = stC l s (p + 1) 0 i := by
  unfold stC
  rcases Nat.lt_or_ge p i with h | h
  · rw [if_neg (by omega)]
    by_cases e : i = p + 1
    · subst e
      rw [if_pos rfl, if_pos (Nat.le_refl _), cnt_succ hc]
    · rw [if_neg e, if_neg (by omega)]
      split <;> rfl
  · rw [if_pos h, if_pos (by omega)]
theorem stC_low {l : List (List UInt8)} {s : List UInt8} {p j i : Nat} (h : i ≤ p) : stC l s p j i = cntC l s i := if_pos h
theorem stC_top {l : List (List UInt8)} {s : List UInt8} {p j : Nat} : stC l s p j (p + 1) = sumF (trm l s (cntC l s) (p + 1)) j := by
  unfold stC; rw [if_neg (by omega), if_pos rfl]
theorem stC_other {l : List (List UInt8)} {s : List UInt8} {p j j' i : Nat} (h : i ≠ p + 1) : stC l s p j i = stC l s p j' i := by
  unfold stC; rw [if_neg h, if_neg h]
theorem stC_skip {l : List (List UInt8)} {s : List UInt8} {p j : Nat} (h : sfx (l.getD j []) (s.take (p + 1)) = false) (i : Nat) : stC l s p j i = stC l s p (j + 1) i := by
  by_cases e : i = p + 1
  · subst e
    rw [stC_top, stC_top, sumF]
    unfold trm
    rw [h]
    simp
  · exact stC_other e
theorem wrap64_add2 (a b : Int) : wrap64 (wrap64 a + wrap64 b) = wrap64 (a + b) := by unfold wrap64; omega
/-- A map that says the counts C. -/
def SaysC (f : Int → Option Int) (C : Nat → Nat) : Prop := ∀ i : Nat, (f (i : Int)).getD 0 = wrap64 (C i : Int)
theorem saysC_start (l : List (List UInt8)) (s : List UInt8) : SaysC (fun t => if t = 0 then some 1 else (none : Option Int)) (stC l s 0 0) := by
  intro i
  rw [stC_start]
  by_cases h : i = 0
  · subst h; simp [wrap64]
  · rw [if_neg h]
    have : ¬ ((i : Int) = 0) := by omega
    simp only [this, if_false]; simp [wrap64]
theorem saysC_put {l : List (List UInt8)} {s : List UInt8} {p j i : Nat} {f : Int → Option Int} {v1 v2 : Int} (h : SaysC f (stC l s p j)) (hj : sfx (l.getD j []) (s.take (p + 1)) = true) (hi : i + (l.getD j []).length = p + 1)
    (h1 : v1 = wrap64 (stC l s p j (p + 1) : Int)) (h2 : v2 = wrap64 (cntC l s i : Int)) : SaysC (fun t => if t = (p : Int) + 1 then some (wrap64 (v1 + v2)) else f t) (stC l s p (j + 1)) := by
  intro k
  by_cases e : k = p + 1
  · subst e
    have : ((p + 1 : Nat) : Int) = (p : Int) + 1 := by omega
    simp only [this, if_true, Option.getD_some]
    rw [h1, h2, wrap64_add2, stC_top, stC_top, sumF]
    unfold trm
    rw [if_pos hj, show p + 1 - (l.getD j []).length = i by omega, Int.natCast_add]
  · have : ¬ ((k : Int) = (p : Int) + 1) := by omega
    simp only [this, if_false]
    rw [h k, stC_other e]
set_option maxRecDepth 100000 in
set_option maxHeartbeats 8000000 in
theorem rowsOf_any (A : Option Addr) (n c B : Nat) (l : List (List UInt8)) (s : ByteArray) (w : World) (hr : Rd w B 1 A n (strCells l)) (hn : n ≤ c) (hB : B ≤ w.heap.size) (hco : Cod l) (hs : s.size ≤ 4096) :
    Calls Tryd.prog 25 #[.slice A n c, .string s] w fun e w' => e = .returned (.int .i64 (wrap64 (cntC l (L s) s.size : Int))) ∧ Below w.heap.size w w' := by
  have hln : l.length = n := by have := hr.1; simpa [strCells] using this
  have hn12 := hco.len
  have HCO := Lib.hid hco
  have HR := Lib.hid hr
  have HLN := Lib.hid hln
  have hmm := @run_makeMap Tryd.prog
  clear hr hco
  go_enter Tryd.func25, Tryd.ntmps25
  go_wp2_with (refine MapII.insert (MapII.made w) (by unfold maxLen; omega) 0 (by decide) 1 (by decide) rfl _ _ _ rfl rfl rfl rfl ?_; intro w1 hm1 hg1)
  have hb1 : Below w.heap.size w w1 := ((Below.refl w.heap.size w).alloc (Nat.le_refl _) _).grown hg1 (by simp) (fun k hk => by cases hk; omega)
  have hz1 : w.heap.size < w1.heap.size := by have := hg1.size; simp at this; omega
  clear hg1
  go_loopw [6] (fun pv wr => ∃ (p m : Nat) (f : Int → Option Int), p ≤ s.size ∧ pv = .int .i64 ((p : Int) + 1) ∧ MapII wr w.heap.size m f ∧ m ≤ 1 + p * 20 ∧ Hid (SaysC f (stC l (L s) p 0)) ∧ Below w.heap.size w wr) (fun pv _ => s.size + 1 - (intOf pv).toNat)
  case atStart => exact ⟨0, 1, _, by omega, by go_num, hm1, by omega, Lib.hid (saysC_start _ _), hb1⟩
  case round =>
    obtain ⟨p, m, f, hp, rfl, hmap, hm, HS, hb⟩ := hrel
    have HM := Lib.hid hmap
    clear hmap
    by_cases hlt : p + 1 ≤ s.size
    · have g1 : decide ((p : Int) + 1 ≤ (s.size : Int)) = true := decide_eq_true (by omega)
      go_wp2_with fail
      go_loopw [19] (fun jv wr => ∃ (j m : Nat) (f : Int → Option Int), j ≤ n ∧ jv = .int .i64 (j : Int) ∧ Hid (MapII wr w.heap.size m f) ∧ m ≤ 1 + p * 20 + j ∧ Hid (SaysC f (stC l (L s) p j)) ∧ Below w.heap.size w wr) (fun jv _ => n - (intOf jv).toNat)
      case atStart => exact ⟨0, m, f, Nat.zero_le _, rfl, HM, by omega, HS, hb⟩
      case round =>
        obtain ⟨j, m, f, hj, rfl, HM, hm, HS, hb⟩ := hrel
        by_cases hjn : j < n
        · have g2 : decide ((j : Int) < (n : Int)) = true := decide_eq_true (by omega)
          have g2' : decide (j < n) = true := decide_eq_true hjn
          obtain ⟨ad, rfl, hab, c0⟩ := str_cell (HR.out.below (hb.mono hB)) hjn
          have hxl := HCO.out.le j (by omega)
          obtain ⟨X, hX⟩ : ∃ X, S (l.getD j []) = X := ⟨_, rfl⟩
          have hxz : X.size ≤ 12 := by rw [← hX, S_size]; exact hxl
          have HLX : Hid (L X = l.getD j []) := by rw [← hX]; exact L_S _
          rw [hX] at c0
          have hez : (s.extract 0 (p + 1)).size = p + 1 := by rw [ByteArray.size_extract]; omega
          have HPX : Hid (∀ W, Calls Tryd.prog 44 #[.string (s.extract 0 (p + 1)), .string X] W fun e W' => e = .returned (.bool (sfx (l.getD j []) ((L s).take (p + 1)))) ∧ W' = W) := fun W => by
            have h := Tryd.strings_HasSuffix (s.extract 0 (p + 1)) X W (by omega)
            have e2 : (L s).take (p + 1) = L (s.extract 0 (p + 1)) := by rw [L_extract, List.drop_zero, Nat.sub_zero]
            rw [e2, ← HLX.out]
            exact h
          have hxn := HCO.out.ne j (by omega)
          have hx0 : 0 < X.size := by
            rw [← hX, S_size]
            rcases Nat.eq_zero_or_pos (l.getD j []).length with h | h
            · exact absurd (List.eq_nil_of_length_eq_zero h) hxn
            · exact h
          clear hX hxl hxn
          cases hp2 : sfx (l.getD j []) ((L s).take (p + 1)) with
          | false =>
            have HS2 : Hid (SaysC f (stC l (L s) p (j + 1))) := fun i => (HS.out i).trans (by rw [stC_skip hp2])
            rw [hp2] at HPX
            clear hp2
            go_wp2_with fail
            refine (HPX.out _).mono ?_
            rintro e w2 ⟨rfl, rfl⟩
            go_wp2_with fail
            go_roundw
            case rel => exact ⟨j + 1, m, f, by omega, by go_num, HM, by omega, HS2, hb⟩
            case measure => simp [intOf]; omega
          | true =>
            have hpl := (sfx_iff.1 hp2).1
            rw [← HLX.out, L_len, List.length_take, L_len] at hpl
            obtain ⟨i, hi⟩ : ∃ i : Nat, i + X.size = p + 1 := ⟨p + 1 - X.size, by omega⟩
            obtain ⟨v1, hv1⟩ : ∃ v, v = wrap64 (stC l (L s) p j (p + 1) : Int) := ⟨_, rfl⟩
            obtain ⟨v2, hv2⟩ : ∃ v, v = wrap64 (cntC l (L s) i : Int) := ⟨_, rfl⟩
            have HS2 : Hid (SaysC (fun t => if t = (p : Int) + 1 then some (wrap64 (v1 + v2)) else f t) (stC l (L s) p (j + 1))) := saysC_put HS.out hp2 (by rw [← HLX.out, L_len]; exact hi) hv1 hv2
            have hk1 := HM.out.look ((p : Int) + 1) (WalkArith.wf_i64 (by omega))
            have hk2 := HM.out.look ((p : Int) + 1 - (X.size : Int)) (WalkArith.wf_i64 (by omega))
            rw [show (f ((p : Int) + 1)).getD 0 = v1 by rw [hv1]; exact HS.out (p + 1)] at hk1
            rw [show (f ((p : Int) + 1 - (X.size : Int))).getD 0 = v2 by
              rw [hv2, show (p : Int) + 1 - (X.size : Int) = (i : Int) by omega, HS.out i, stC_low (by omega)]] at hk2
            rw [hp2] at HPX
            clear hp2 hv1 hv2
            go_wp2_with fail
            refine (HPX.out _).mono ?_
            rintro e w2 ⟨rfl, rfl⟩
            go_wp2_with (at_mapUpdate; go_must (refine MapII.store HM.out (by unfold maxLen; omega) ((p : Int) + 1) (WalkArith.wf_i64 (by omega)) (wrap64 (v1 + v2)) (wrap64_wf _) rfl _ _ _ rfl rfl rfl rfl ?_); intro w7 hm7 hg7)
            have hb7 := hb.grown hg7 hb.size (fun k hk => by cases hk; omega)
            go_roundw
            case rel => exact ⟨j + 1, m + 1, _, by omega, by go_num, Lib.hid hm7, by omega, HS2, hb7⟩
            case measure => simp [intOf]; omega
        · obtain rfl : j = n := by omega
          have g2 : decide ((j : Int) < (j : Int)) = false := decide_eq_false (by omega)
          have g2' : decide (j < j) = false := decide_eq_false hjn
          have HS2 : Hid (SaysC f (stC l (L s) (p + 1) 0)) := fun i => (HS.out i).trans (by rw [← HLN.out, stC_next HCO.out])
          go_wp2_with fail
          go_roundw
          case rel => exact ⟨p + 1, m, f, by omega, by go_num, HM.out, by omega, HS2, hb⟩
          case measure => simp [intOf]; omega
    · obtain rfl : p = s.size := by omega
      have g1 : decide ((s.size : Int) + 1 ≤ (s.size : Int)) = false := decide_eq_false (by omega)
      have hk1 := HM.out.look (s.size : Int) (WalkArith.wf_i64 (by omega))
      rw [show (f (s.size : Int)).getD 0 = wrap64 (cntC l (L s) s.size : Int) by rw [HS.out, stC_low (Nat.le_refl _)]] at hk1
      go_wp2_with fail
      go_ret
      exact ⟨rfl, hb⟩
end Go.Proofs.YtmmamdjbbpeifaaDoor
