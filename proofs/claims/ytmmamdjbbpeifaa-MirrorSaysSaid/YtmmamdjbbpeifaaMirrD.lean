/- The document's arms. -/
import Derived.Test.YtmmamdjbbpeifaaRevB
import Derived.Test.YtmmamdjbbpeifaaMirr3
namespace Go.Proofs.Ytmmamdjbbpeifaa
open Go.RowKit
set_option maxRecDepth 100000 in
set_option maxHeartbeats 8000000 in
theorem armsOf_any (s : ByteArray) (hs : s.size ≤ 200) (w : World) :
    Calls Try.prog 13 #[.string s] w fun e w' => ∃ g, e = .returned (.slice (some ⟨g, 0, none⟩) (2 * s.size + 1 : Nat) (2 * s.size + 1 : Nat)) ∧ ArrI w' w.heap.size g (2 * s.size + 1) (armI (L s)) ∧ Below w.heap.size w w' := by
  obtain ⟨i0, hi0, hz0, hz1, hz2⟩ := info_parts info_int
  have HZ : Hid ((L s).length = s.size) := L_len s
  go_enter Try.func13, Try.ntmps13
  go_wp2_with (at_make; go_must (refine wpList_make_full _ rfl _ _ _ rfl w.heap.size 3 i0 _ 1 Try.underlying22 hi0 hz0 hz1 .i64 .i64 (2 * (s.size : Int) + 1) (2 * (s.size : Int) + 1) (2 * s.size + 1) rfl rfl (by omega) (by omega) (by rw [hz2]; omega) (by unfold maxLen; omega) (Nat.le_refl _) ?_); intro w2 hown2 hg2)
  have hb2 : Below w.heap.size w w2 := (Below.refl _ _).grown hg2 (Nat.le_refl _) (fun _ h => by cases h)
  have hown2 : ArrI w2 w.heap.size w.heap.size (2 * s.size + 1) (List.replicate (2 * s.size + 1) 0) := by
    rw [made_ints] at hown2; exact hown2
  clear hg2
  obtain ⟨g, hg⟩ : ∃ g, g = w.heap.size := ⟨_, rfl⟩
  rw [← hg]
  have hgw : w.heap.size ≤ g := by omega
  have hown2 : ArrI w2 w.heap.size g (2 * s.size + 1) (List.replicate (2 * s.size + 1) 0) := by rw [hg]; rw [← hg]; rw [hg]; exact hown2
  clear hg
  have HA0 := Lib.hid (AoAt.start (L s))
  rw [HZ.out] at HA0
  go_loopw [13] (fun iv wr => ∃ (i : Nat) (o : List Int), i ≤ s.size ∧ iv = .int .i64 (i : Int) ∧ Hid (AoAt (L s) i (i + 1) o) ∧ ArrI wr w.heap.size g (2 * s.size + 1) o ∧ Below w.heap.size w wr) (fun iv _ => s.size - (intOf iv).toNat)
  case atStart => exact ⟨0, _, Nat.zero_le _, rfl, HA0, hown2, hb2⟩
  case round =>
    clear HA0 hown2 hb2
    obtain ⟨i, o, hi, rfl, HA, hrow, hb⟩ := hrel
    by_cases hlt : i < s.size
    · have g1 : decide (i < s.size) = true := decide_eq_true hlt
      have g1' : decide ((i : Int) < (s.size : Int)) = true := decide_eq_true (by omega)
      go_wp2_with fail
      go_loopw [5] (fun kv wr => ∃ (k : Nat) (o : List Int), i < k ∧ k ≤ s.size + 1 ∧ kv = .int .i64 (k : Int) ∧ Hid (AoAt (L s) i k o) ∧ ArrI wr w.heap.size g (2 * s.size + 1) o ∧ Below w.heap.size w wr) (fun kv _ => s.size + 1 - (intOf kv).toNat)
      case atStart => exact ⟨i + 1, o, by omega, by omega, by go_num, HA, hrow, hb⟩
      case round =>
        clear HA hrow hb
        obtain ⟨k, o, hik, hk, rfl, HA, hrow, hb⟩ := hrel
        by_cases hks : k ≤ s.size
        · have g2 : decide ((k : Int) ≤ (s.size : Int)) = true := decide_eq_true (by omega)
          have g2' : decide (k ≤ s.size) = true := decide_eq_true hks
          have HX : Hid (L (s.extract i k) = part (L s) i k) := by unfold Hid; rw [L_extract]; rfl
          have hxs : (s.extract i k).size ≤ 9223372036854775807 := by rw [ByteArray.size_extract]; omega
          have HR := fun W => Lib.hid (refMirror_any (s.extract i k) hxs W)
          clear hxs
          have HROW := Lib.hid hrow
          clear hrow
          cases hm : mirB (part (L s) i k) with
          | false =>
            have HN := Lib.hid (HA.out.no hm)
            go_wp2_with fail
            refine ((HR _).out).mono ?_
            rintro e w3 ⟨rfl, hb3⟩
            rw [HX.out, hm]
            clear hm HR
            go_wp2_with fail
            go_roundw
            case rel => exact ⟨k + 1, o, by omega, by omega, by go_num, HN, HROW.out.below hb3, bthen hb hb3⟩
            case measure => simp [intOf]; omega
          | true =>
            have HY := fun v hv => HA.out.yes (v := v) hik (by rw [HZ.out]; exact hks) hm hv
            have HYY := Lib.hid HY
            clear HY
            go_wp2_with fail
            refine ((HR _).out).mono ?_
            rintro e w3 ⟨rfl, hb3⟩
            rw [HX.out, hm]
            clear hm HR
            have hb4 := bthen hb hb3
            have hrow3 := HROW.out.below hb3
            clear hb hb3 HROW
            have c0 := hrow3.at_ (k := i + k) (by omega)
            have hln := hrow3.len
            have f0 := hrow3.free (i + k)
            generalize o.getD (i + k) 0 = u at *
            go_wp2_with fail
            refine ⟨⟨k + 1, o.set (i + k) (max u ((k : Int) - (i : Int))), by omega, by omega, by go_num, Lib.hid (HYY.out _ ?_), hrow3.set_ _ _, hb4.setCell (p := ⟨g, i + k, none⟩) hgw _⟩, by simp [intOf]; omega⟩
            omega
        · have g2 : decide ((k : Int) ≤ (s.size : Int)) = false := decide_eq_false (by omega)
          have g2' : decide (k ≤ s.size) = false := decide_eq_false hks
          have hkk : k = (L s).length + 1 := by rw [HZ.out]; omega
          have HN : Hid (AoAt (L s) (i + 1) (i + 1 + 1) o) := by
            have h := HA.out
            rw [hkk] at h
            exact h.next
          clear hkk
          go_wp2_with fail
          go_roundw
          case rel => exact ⟨i + 1, o, by omega, by go_num, HN, hrow, hb⟩
          case measure => simp [intOf]; omega
    · have g1 : decide (i < s.size) = false := decide_eq_false hlt
      have g1' : decide ((i : Int) < (s.size : Int)) = false := decide_eq_false (by omega)
      have hE : Hid (o = armI (L s)) := by
        have h := HA.out
        rw [show i = (L s).length by rw [HZ.out]; omega] at h
        exact h.fin
      go_wp2_with fail
      go_ret
      refine ⟨g, rfl, ?_, hb⟩
      rw [← hE.out]; exact hrow
end Go.Proofs.Ytmmamdjbbpeifaa
