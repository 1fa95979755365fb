/- mirror.Unlike. -/
import Derived.Test.YtmmamdjbbpeifaaMirrB
import Derived.Test.YtmmamdjbbpeifaaMirr1
import Derived.Test.YtmmamdjbbpeifaaComp
import Derived.Test.YtmmamdjbbpeifaaLynW
import Derived.Test.YtmmamdjbbpeifaaSortS
import Derived.Test.YtmmamdjbbpeifaaMirr2
namespace Go.Proofs.Ytmmamdjbbpeifaa
open Go.RowKit
set_option maxHeartbeats 1000000 in
theorem mirrUnlike_large (s : ByteArray) (hs : 200 < s.size) (w : World) :
    Calls Try.prog 9 #[.string s] w fun e w' => e = .returned (.tuple #[.int .i64 0, .int .i64 2]) ∧ Below w.heap.size w w' := by
  go_enter Try.func9, Try.ntmps9
  go_wp2_with fail
  refine (mirrArms_large s hs _).mono ?_
  rintro e w1 ⟨rfl, hb1⟩
  go_wp2_with fail
  go_ret2
  exact ⟨rfl, hb1⟩
set_option maxRecDepth 100000 in
set_option maxHeartbeats 8000000 in
theorem mirrUnlike_any (s : ByteArray) (hs : s.size ≤ 200) (w : World) :
    Calls Try.prog 9 #[.string s] w fun e w' => e = .returned (.tuple #[.int .i64 ((Lib.compact (sortB (allP (L s) (2 * s.size + 1)))).length : Nat), .int .i64 0]) ∧ Below w.heap.size w w' := by
  obtain ⟨i0, hi0, hz0, hz1, hz2⟩ := info_parts info_str
  have HZ : Hid ((L s).length = s.size) := L_len s
  go_enter Try.func9, Try.ntmps9
  go_wp2_with fail
  refine (mirrArms_any s hs _).mono ?_
  rintro e w1 ⟨g, rfl, hrow, hb1⟩
  have HROW := Lib.hid hrow
  clear hrow
  have hz1' : w.heap.size ≤ w1.heap.size := hb1.size
  go_wp2_with fail
  go_loopw [19, 6] (fun i a wr => ∃ k : Nat, k ≤ 2 * s.size + 1 ∧ i = .int .i64 (k : Int) ∧ wr.ownsRow w1.heap.size 9 1 a (allP (L s) k).length (strCells (allP (L s) k)) ∧ Below w1.heap.size w1 wr) (fun i _ _ => 2 * s.size + 1 - (intOf i).toNat)
  case atStart => exact ⟨0, Nat.zero_le _, rfl, World.ownsRow_nil _ _ _ _, Below.refl _ _⟩
  case round =>
    obtain ⟨k, hk, rfl, hown, hb⟩ := hrel
    by_cases hlt : k < 2 * s.size + 1
    · have g1 : decide ((k : Int) < 2 * (s.size : Int) + 1) = true := decide_eq_true (by omega)
      have hall := allP_len (L s) (k + 1) (by rw [HZ.out]; omega)
      rw [HZ.out] at hall
      have hall2 : (allP (L s) (k + 1)).length ≤ 100000 := Nat.le_trans hall (Nat.le_trans (Nat.mul_le_mul (by omega : k + 1 ≤ 401) hs) (by omega))
      clear hall
      have c0 := (HROW.out.below hb).at_ (k := k) hlt
      rw [armI_at _ k (by rw [HZ.out]; omega)] at c0
      have hm := armOf_max (s := L s) (k := k) (by rw [HZ.out]; omega)
      have l1 := hm.1.lo
      have l2 := hm.1.hi
      have l3 := hm.even
      rw [HZ.out] at l2
      clear hm
      have HA : Hid (allP (L s) k ++ armP (L s) k (armOf (L s) k) = allP (L s) (k + 1)) := rfl
      have HOWN := Lib.hid hown
      clear hown
      generalize armOf (L s) k = x at *
      obtain ⟨out, hout⟩ : ∃ out, out = allP (L s) k := ⟨_, rfl⟩
      rw [← hout] at HA HOWN
      clear hout
      have hb0 := hb
      clear hb
      go_wp2_with fail
      go_loopw [8, 6] (fun xv a wr => ∃ (y : Int) (out : List (List UInt8)), xv = .int .i64 y ∧ -1 ≤ y ∧ y ≤ (x : Int) ∧ (((k : Int) + y) % 2 = 0) ∧ Hid (out ++ armP (L s) k y.toNat = allP (L s) (k + 1)) ∧ wr.ownsRow w1.heap.size 9 1 a out.length (strCells out) ∧ Below w1.heap.size w1 wr) (fun xv _ _ => (intOf xv + 2).toNat)
      case atStart => exact ⟨(x : Int), out, rfl, by omega, by omega, by omega, HA, HOWN.out, hb0⟩
      case round =>
        clear HOWN hb0 HA c0
        obtain ⟨y, out, rfl, hy1, hy2, hy3, HA, hown, hb⟩ := hrel
        have HOWN := Lib.hid hown
        clear hown
        by_cases hpos : 0 < y
        · obtain ⟨r, rfl⟩ : ∃ r : Nat, y = (r : Int) := ⟨y.toNat, by omega⟩
          have g2 : decide ((0 : Int) < (r : Int)) = true := decide_eq_true hpos
          obtain ⟨a, ha⟩ : ∃ a, a = (k - r) / 2 := ⟨_, rfl⟩
          obtain ⟨b, hb0⟩ : ∃ b, b = (k + r) / 2 := ⟨_, rfl⟩
          have ga : ((k : Int) - (r : Int)) / 2 = (a : Int) := by omega
          have gb : ((k : Int) + (r : Int)) / 2 = (b : Int) := by omega
          have hab : a ≤ b := by omega
          have hbs : b ≤ s.size := by omega
          have HP : Hid ((out ++ [part (L s) a b]) ++ armP (L s) k ((r : Int) - 2).toNat = allP (L s) (k + 1)) := by
            unfold Hid
            rw [← HA.out, List.append_assoc, Int.toNat_natCast, armP_pos (L s) k (r := r) (by omega), ha, hb0, show ((r : Int) - 2).toNat = r - 2 by omega]
            rfl
          have hlen : out.length ≤ 100000 := by
            have := congrArg List.length HA.out
            rw [List.length_append] at this
            omega
          have HX : Hid (s.extract a b = S (part (L s) a b)) := extract_S s a b
          clear HA ha hb0
          go_wp2_with (at_builtin; go_must (refine wpList_appG rfl _ _ _ rfl w1.heap.size 9 i0 _ 1 16 Try.underlying36 hi0 hz0 hz1 hz2 rfl (by omega) _ out.length (strCells out) rfl (World.ownsRow.alloc (w := wr) HOWN.out _) ⟨wr.heap.size, 0, none⟩ 1 1 [.string (s.extract a b)] rfl rfl (cell_one_new _ _ _) (by simp [Value.oneCell']) (by omega) (by omega) (by have := (hb).size; simp at this ⊢; omega) ?_); intro v6 w6 hown6 hg6 hb6; have hb6' := ((hb).alloc (hb).size _).trans hb6)
          clear hg6 hb6
          go_roundw
          case rel =>
            refine ⟨(r : Int) - 2, _, by go_num, by omega, by omega, by omega, HP, ?_, hb6'⟩
            rw [List.length_append, List.length_singleton, ← strCells_snoc', ← HX.out]
            exact hown6
          case measure => simp [intOf]; omega
        · have g2 : decide ((0 : Int) < y) = false := decide_eq_false hpos
          have HD : Hid (out = allP (L s) (k + 1)) := by
            have := HA.out
            rw [show y.toNat = 0 by omega, armP, List.append_nil] at this
            exact this
          go_wp2_with fail
          go_roundw
          case rel =>
            refine ⟨k + 1, by omega, by go_num, ?_, hb⟩
            rw [← HD.out]; exact HOWN.out
          case measure => simp [intOf]; omega
    · obtain rfl : k = 2 * s.size + 1 := by omega
      have hall := allP_len (L s) (2 * s.size + 1) (by rw [HZ.out]; omega)
      rw [HZ.out] at hall
      have hall2 : (allP (L s) (2 * s.size + 1)).length ≤ 100000 := Nat.le_trans hall (Nat.le_trans (Nat.mul_le_mul (by omega : 2 * s.size + 1 ≤ 401) hs) (by omega))
      clear hall
      obtain ⟨l, hl⟩ : ∃ l, allP (L s) (2 * s.size + 1) = l := ⟨_, rfl⟩
      rw [hl] at hown hall2
      have HL := Lib.hid hl
      clear hl
      go_wp2_with fail
      refine (sortStr_own l _ w1 wr hown hb (by omega)).mono ?_
      rintro e w2 ⟨rfl, hown2, hb2⟩
      go_wp2_with fail
      refine (compStr_own (sortB l) _ w1 w2 (by rw [sortB_len]; exact hown2) hb2 (by rw [sortB_len]; omega)).mono ?_
      rintro e w3 ⟨v3, c3, rfl, hown3, hb3⟩
      go_wp2_with fail
      go_ret2
      rw [HL.out]
      exact ⟨rfl, bthen hb1 hb3⟩
end Go.Proofs.Ytmmamdjbbpeifaa
