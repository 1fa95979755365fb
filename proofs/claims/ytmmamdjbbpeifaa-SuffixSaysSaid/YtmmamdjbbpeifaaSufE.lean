/- The document's longest part that stands twice. -/
import Derived.Test.YtmmamdjbbpeifaaSufD
import Derived.Test.YtmmamdjbbpeifaaStrC
namespace Go.Proofs.Ytmmamdjbbpeifaa
open Go.RowKit
def winL (s : List UInt8) (m c : Nat) : List (List UInt8) := (List.range c).map (wins s m)
theorem winL_succ (s : List UInt8) (m c : Nat) : winL s m (c + 1) = winL s m c ++ [wins s m c] := by simp [winL, List.range_succ]
theorem winL_len (s : List UInt8) (m c : Nat) : (winL s m c).length = c := by simp [winL]
def winP (s : List UInt8) (m : Nat) : List Nat := srtL (wins s m) (s.length - m + 1)
theorem winP_srt (s : List UInt8) (m : Nat) : Srt (wins s m) (s.length - m + 1) (winP s m) := srt_is _ _
theorem win_sort (s : List UInt8) (m : Nat) : sortB (winL s m (s.length - m + 1)) = (winP s m).map (wins s m) := srt_sortB _ _
def wAt (s : List UInt8) (m i : Nat) : List UInt8 := wins s m ((winP s m).getD i 0)
theorem wAt_get (s : List UInt8) (m : Nat) {i : Nat} (h : i < s.length - m + 1) : (strCells ((winP s m).map (wins s m)))[i]? = some (.string (S (wAt s m i))) := by
  rw [strCells, List.getElem?_map, List.getElem?_map, List.getElem?_eq_getElem (by rw [(winP_srt s m).len]; exact h), wAt, (winP_srt s m).get h]
  rfl
set_option maxRecDepth 100000 in
set_option maxHeartbeats 8000000 in
theorem twiceOf_any (s : ByteArray) (hs : s.size ≤ 200) (w : World) :
    Calls Try.prog 21 #[.string s] w fun e w' => ∃ b, TwiceIs (L s) b ∧ e = .returned (.string (S b)) ∧ Below w.heap.size w w' := by
  obtain ⟨i0, hi0, hz0, hz1, hz2⟩ := info_parts info_str
  have HZ : Hid ((L s).length = s.size) := L_len s
  go_enter Try.func21, Try.ntmps21
  go_wp2_with fail
  go_loopw [3] (fun nv wr => ∃ z : Int, nv = .int .i64 z ∧ -1 ≤ z ∧ z ≤ (s.size : Int) - 1 ∧ Hid (∀ (q : Nat) x, 0 < q → z < (q : Int) → ¬ Rep (L s) q x) ∧ Below w.heap.size w wr) (fun nv _ => (intOf nv + 1).toNat)
  case atStart =>
    refine ⟨(s.size : Int) - 1, by go_num, by omega, by omega, Lib.hid (fun q x h0 hq hr => ?_), Below.refl _ _⟩
    obtain ⟨i, j, hij, hj, _⟩ := hr
    rw [HZ.out] at hj; omega
  case round =>
    obtain ⟨z, rfl, hz1', hz2', HNO, hb⟩ := hrel
    by_cases hpos : 0 < z
    · obtain ⟨m, rfl⟩ : ∃ m : Nat, z = (m : Int) := ⟨z.toNat, by omega⟩
      have g1 : decide ((0 : Int) < (m : Int)) = true := decide_eq_true hpos
      have g1' : decide (0 < m) = true := decide_eq_true (by omega)
      have hm0 : 0 < m := by omega
      obtain ⟨c, hc⟩ : ∃ c, s.size - m + 1 = c := ⟨_, rfl⟩
      have hcm : c + m = s.size + 1 := by omega
      have HCC : Hid ((L s).length - m + 1 = c) := by unfold Hid; rw [HZ.out]; exact hc
      clear hc hpos
      go_wp2_with fail
      go_loopw [5, 4] (fun iv a wr => ∃ (i : Nat), i ≤ c ∧ iv = .int .i64 (i : Int) ∧ wr.ownsRow w.heap.size 9 1 a i (strCells (winL (L s) m i)) ∧ Below w.heap.size w wr) (fun iv _ _ => s.size + 1 - (intOf iv).toNat)
      case atStart => exact ⟨0, Nat.zero_le _, rfl, World.ownsRow_nil _ _ _ _, hb⟩
      case round =>
        clear hb
        obtain ⟨i, hi, rfl, hown, hb⟩ := hrel
        by_cases hlt : i < c
        · have g2 : decide ((i : Int) + (m : Int) ≤ (s.size : Int)) = true := decide_eq_true (by omega)
          obtain ⟨l, hl⟩ : ∃ l, winL (L s) m i = l := ⟨_, rfl⟩
          have hll : l.length = i := by rw [← hl, winL_len]
          rw [hl, ← hll] at hown
          have HLL := Lib.hid hll
          have hbd : l.length ≤ 200 := by omega
          clear hll
          have HN : Hid (l ++ [wins (L s) m i] = winL (L s) m (i + 1)) := by unfold Hid; rw [winL_succ, hl]
          clear hl
          have HOWN := Lib.hid hown
          clear hown
          have gx : ((i : Int) + (m : Int)).toNat = i + m := by omega
          have HX : Hid (s.extract i (i + m) = S (wins (L s) m i)) := by
            unfold Hid wins
            rw [extract_S, Nat.add_sub_cancel_left]
          go_wp2_with (at_builtin; go_must (refine wpList_appG rfl _ _ _ rfl w.heap.size 9 i0 _ 1 16 Try.underlying36 hi0 hz0 hz1 hz2 rfl (by omega) _ l.length (strCells l) rfl (World.ownsRow.alloc (w := wr) HOWN.out _) ⟨wr.heap.size, 0, none⟩ 1 1 [.string (s.extract i (i + m))] rfl rfl (cell_one_new _ _ _) (by simp [Value.oneCell']) (by omega) (by omega) (by have := (hb).size; simp at this ⊢; omega) ?_); intro v6 w6 hown6 hg6 hb6; have hb6' := ((hb).alloc (hb).size _).trans hb6)
          clear hg6 hb6
          go_roundw
          case rel =>
            refine ⟨i + 1, by omega, by go_num, ?_, hb6'⟩
            rw [← HN.out, ← strCells_snoc', ← HX.out]
            rw [HLL.out] at hown6
            exact hown6
          case measure => simp [intOf]; omega
        · obtain rfl : i = c := by omega
          have g2 : decide ((i : Int) + (m : Int) ≤ (s.size : Int)) = false := decide_eq_false (by omega)
          have HE : Hid (sortB (winL (L s) m i) = (winP (L s) m).map (wins (L s) m)) := by
            have h := win_sort (L s) m
            rw [HCC.out] at h
            exact h
          have hll := winL_len (L s) m i
          generalize winL (L s) m i = l at *
          rw [← hll] at hown
          have HLL := Lib.hid hll
          have hbd : l.length ≤ 201 := by omega
          clear hll
          go_wp2_with fail
          refine (sortStr_own l _ w wr hown hb (by omega)).mono ?_
          rintro e w2 ⟨rfl, hown2, hb2⟩
          rw [HE.out, HLL.out] at hown2
          have hi2 : 2 ≤ i := by omega
          rcases hown2.2 with ⟨_, h0⟩ | ⟨g, cap, cur, rfl, hbase, hg, h1, h2, h3, h4⟩
          · exfalso; omega
          have HCELL : Hid (∀ k, k < i → w2.cell? ⟨g, k, none⟩ = some (.string (S (wAt (L s) m k)))) := fun k hk => by
            rw [World.ownsRow.cellAt hown2 k (by omega)]
            exact wAt_get (L s) m (by rw [HCC.out]; exact hk)
          have hml : m ≤ s.size := by omega
          clear h1 h2 h3 h4 hg hbase hown2 hown hb HE HLL
          go_wp2_with fail
          go_loopw [6] (fun jv wr => ∃ j q : Nat, j + 1 ≤ i ∧ jv = .int .i64 ((j : Int) + 1) ∧ Hid (∀ k, 0 < k → k < j + 1 → wAt (L s) m k ≠ wAt (L s) m (k - 1)) ∧ wr = w2.drewN q) (fun jv _ => i - (intOf jv).toNat)
          case atStart => exact ⟨0, 0, by omega, by go_num, Lib.hid (fun k h0 h1 => by omega), rfl⟩
          case round =>
            obtain ⟨j, q, hj, rfl, HNE, rfl⟩ := hrel
            have hb3 := below_drewN hb2 q
            by_cases hlt2 : j + 1 < i
            · have g3 : decide ((j : Int) + 1 < (i : Int)) = true := decide_eq_true (by omega)
              have c1 := HCELL.out (j + 1) hlt2
              have c0 := HCELL.out j (by omega)
              obtain ⟨X, hX⟩ : ∃ X, S (wAt (L s) m (j + 1)) = X := ⟨_, rfl⟩
              obtain ⟨Y, hY⟩ : ∃ Y, S (wAt (L s) m j) = Y := ⟨_, rfl⟩
              rw [hX] at c1
              rw [hY] at c0
              by_cases he : wAt (L s) m (j + 1) = wAt (L s) m j
              · have g4 : (X.toList == Y.toList) = true := by rw [beqB, ← hX, ← hY, he]; exact decide_eq_true rfl
                have HT : Hid (TwiceIs (L s) (wAt (L s) m (j + 1))) :=
                  twice_found (winP_srt (L s) m) (by rw [HZ.out]; omega) hm0 (i := j + 1) (by omega) (by rw [HCC.out]; exact hlt2) he HNE.out (fun q x h => HNO.out q x (by omega) (by omega))
                have HX := Lib.hid hX
                clear he hX hY
                go_wp2_with fail
                go_quiet (fail)
                go_wp2_with fail
                go_ret
                refine ⟨_, HT.out, ?_, below_drewN hb2 _⟩
                rw [HX.out]
                rfl
              · have g4 : (X.toList == Y.toList) = false := by
                  rw [beqB, ← hX, ← hY]
                  exact decide_eq_false fun h => he (S_inj h)
                have HN2 : Hid (∀ k, 0 < k → k < j + 1 + 1 → wAt (L s) m k ≠ wAt (L s) m (k - 1)) := fun k h0 h1 => by
                  rcases Nat.lt_or_ge k (j + 1) with h2 | h2
                  · exact HNE.out k h0 h2
                  · obtain rfl : k = j + 1 := by omega
                    exact he
                clear he hX hY
                go_wp2_with fail
                go_quiet (fail)
                go_wp2_with fail
                go_roundw
                case rel => exact ⟨j + 1, _, by omega, by go_num, HN2, rfl⟩
                case measure => simp [intOf]; omega
            · obtain rfl : i = j + 1 := by omega
              have g3 : decide ((j : Int) + 1 < ((j + 1 : Nat) : Int)) = false := decide_eq_false (by omega)
              have HN3 : Hid (∀ (q : Nat) x, 0 < q → (m : Int) - 1 < (q : Int) → ¬ Rep (L s) q x) := fun q x h0 hq => by
                rcases Nat.lt_or_ge m q with h1 | h1
                · exact HNO.out q x h0 (by omega)
                · obtain rfl : q = m := by omega
                  exact twice_none (winP_srt (L s) q) (by rw [HZ.out]; omega) (fun k h2 h3 => HNE.out k h2 (by rw [HCC.out] at h3; exact h3)) x
              go_wp2_with fail
              go_roundw
              case rel => exact ⟨(m : Int) - 1, by go_num, by omega, by omega, HN3, hb3⟩
              case measure => simp [intOf] <;> omega
    · have g1 : decide ((0 : Int) < z) = false := decide_eq_false hpos
      have HT : Hid (TwiceIs (L s) []) := .inl ⟨rfl, fun q x h0 => HNO.out q x h0 (by omega)⟩
      go_wp2_with fail
      go_ret
      exact ⟨[], HT.out, rfl, hb⟩
end Go.Proofs.Ytmmamdjbbpeifaa
