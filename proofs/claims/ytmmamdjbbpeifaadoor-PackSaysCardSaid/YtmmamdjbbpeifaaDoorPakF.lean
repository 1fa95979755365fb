/- pack.Ways. -/
import Derived.Test.YtmmamdjbbpeifaaDoorPakE
import Derived.Test.YtmmamdjbbpeifaaDoorTab
import Derived.Test.YtmmamdjbbpeifaaDoorSchedZ
namespace Go.Proofs.YtmmamdjbbpeifaaDoor
open Go.RowKit
set_option maxRecDepth 100000 in
set_option maxHeartbeats 4000000 in
theorem ways_bad (A : Option Addr) (n c B : Nat) (l : List (List UInt8)) (s : ByteArray) (w : World) (hr : Rd w B 1 A n (strCells l)) (hn : n ≤ c) (hB : B ≤ w.heap.size) (hx : ∀ x ∈ l, x.length ≤ maxLen) (hE : codeErr l ≠ 0) :
    Calls Tryd.prog 21 #[.slice A n c, .string s] w fun e w' => e = .returned (.tuple #[.int .i64 0, .int .i64 (codeErr l)]) ∧ Below w.heap.size w w' := by
  have HC := Lib.hid (codeCheck_any A n c B l w hr hn hB hx)
  generalize codeErr l = E at *
  have g1 : (E == 0) = false := by rw [beq_eq_false_iff_ne]; exact hE
  have g2 : (E != 0) = true := by rw [bne, g1]; rfl
  clear hE hr
  go_enter Tryd.func21, Tryd.ntmps21
  go_wp2_with fail
  refine HC.out.mono ?_
  rintro e w1 ⟨rfl, hb1⟩
  go_wp2_with fail
  go_ret2
  exact ⟨rfl, hb1⟩
set_option maxRecDepth 100000 in
set_option maxHeartbeats 4000000 in
theorem ways_large (A : Option Addr) (n c B : Nat) (l : List (List UInt8)) (s : ByteArray) (w : World) (hr : Rd w B 1 A n (strCells l)) (hn : n ≤ c) (hB : B ≤ w.heap.size) (hx : ∀ x ∈ l, x.length ≤ maxLen) (hE : codeErr l = 0) (hs : 40 < s.size) :
    Calls Tryd.prog 21 #[.slice A n c, .string s] w fun e w' => e = .returned (.tuple #[.int .i64 0, .int .i64 2]) ∧ Below w.heap.size w w' := by
  have HC := codeCheck_any A n c B l w hr hn hB hx
  rw [hE] at HC
  have HC := Lib.hid HC
  have g1 : decide ((40 : Int) < (s.size : Int)) = true := decide_eq_true (by omega)
  have g1' : decide (40 < s.size) = true := decide_eq_true hs
  clear hE hr
  go_enter Tryd.func21, Tryd.ntmps21
  go_wp2_with fail
  refine HC.out.mono ?_
  rintro e w1 ⟨rfl, hb1⟩
  go_wp2_with fail
  go_ret2
  exact ⟨rfl, hb1⟩
set_option maxRecDepth 100000 in
set_option maxHeartbeats 8000000 in
theorem ways_any (A : Option Addr) (n c B : Nat) (l : List (List UInt8)) (s : ByteArray) (w : World) (hr : Rd w B 1 A n (strCells l)) (hn : n ≤ c) (hB : B ≤ w.heap.size) (hx : ∀ x ∈ l, x.length ≤ maxLen) (hE : codeErr l = 0) (hs : s.size ≤ 40) :
    Calls Tryd.prog 21 #[.slice A n c, .string s] w fun e w' => e = .returned (.tuple #[.int .i64 (wrap64 (cntC l (L s) s.size : Int)), .int .i64 0]) ∧ Below w.heap.size w w' := by
  obtain ⟨i0, hi0, hz0, hz1, hz2⟩ := info_parts info_int
  have hln : l.length = n := by have := hr.1; simpa [strCells] using this
  have HC := codeCheck_any A n c B l w hr hn hB hx
  rw [hE] at HC
  have HC := Lib.hid HC
  have hco := cod_of hE
  have HCO := Lib.hid hco
  have hn12 := hco.len
  have HR := Lib.hid hr
  have HLN := Lib.hid hln
  have HLS : Hid ((L s).length = s.size) := L_len s
  have g1 : decide ((40 : Int) < (s.size : Int)) = false := decide_eq_false (by omega)
  have g1' : decide (40 < s.size) = false := decide_eq_false (by omega)
  clear hE hr hco
  go_enter Tryd.func21, Tryd.ntmps21
  go_wp2_with fail
  refine HC.out.mono ?_
  rintro e w1 ⟨rfl, hb1⟩
  have hzw : w.heap.size ≤ w1.heap.size := hb1.size
  go_wp2_with (at_make; go_must (refine wpList_make_full _ rfl _ _ _ rfl w.heap.size 3 i0 _ 1 Tryd.underlying41 hi0 hz0 hz1 .i64 .i64 ((s.size : Int) + 1) ((s.size : Int) + 1) (s.size + 1) rfl rfl (by omega) (by omega) (by rw [hz2]; omega) (by unfold maxLen; omega) hb1.size ?_); intro w2 hown2 hg2; have hA2 : ArrI w2 w.heap.size w1.heap.size (s.size + 1) (List.replicate (s.size + 1) 0) := (by rw [made_ints] at hown2; exact hown2); have f0 := hA2.free 0; have c0 := hA2.at_ (k := 0) (by omega))
  have hb2 : Below w.heap.size w w2 := hb1.grown hg2 hb1.size (fun _ h => by cases h)
  have hA3 := hA2.set_ 0 1
  have hb3 : Below w.heap.size w (w2.setCell ⟨w1.heap.size, 0, none⟩ (.int .i64 1)) := Below.setCell hb2 hzw _
  have HS0 := Lib.hid (saysR_start l (L s) s.size)
  clear hown2 hg2 hb1 hA2 f0 c0 hb2 HC
  generalize w2.setCell ⟨w1.heap.size, 0, none⟩ (.int .i64 1) = w3 at *
  generalize w1.heap.size = g at *
  go_loopw [27] (fun kv wr => ∃ (k : Nat) (R : List Int), k ≤ s.size ∧ kv = .int .i64 (k : Int) ∧ Hid (ArrI wr w.heap.size g (s.size + 1) R) ∧ Hid (SaysR R s.size (wayS l (L s) k 0)) ∧ Below w.heap.size w wr) (fun kv _ => s.size - (intOf kv).toNat)
  case atStart => exact ⟨0, _, by omega, rfl, Lib.hid hA3, HS0, hb3⟩
  case round =>
    clear hA3 HS0 hb3
    obtain ⟨k, R, hk, rfl, HA, HS, hb⟩ := hrel
    by_cases hlt : k < s.size
    · have g2 : decide ((k : Int) < (s.size : Int)) = true := decide_eq_true (by omega)
      have g2' : decide (k < s.size) = true := decide_eq_true hlt
      go_wp2_with fail
      go_loopw [32] (fun jv wr => ∃ (j : Nat) (R : List Int), j ≤ n ∧ jv = .int .i64 (j : Int) ∧ Hid (ArrI wr w.heap.size g (s.size + 1) R) ∧ Hid (SaysR R s.size (wayS l (L s) k j)) ∧ Below w.heap.size w wr) (fun jv _ => n - (intOf jv).toNat)
      case atStart => exact ⟨0, R, Nat.zero_le _, rfl, HA, HS, hb⟩
      case round =>
        clear HA HS hb
        obtain ⟨j, R, hj, rfl, HA, HS, hb⟩ := hrel
        by_cases hjn : j < n
        · have g3 : decide ((j : Int) < (n : Int)) = true := decide_eq_true (by omega)
          have g3' : decide (j < n) = true := decide_eq_true hjn
          obtain ⟨ad, rfl, hab, c0⟩ := str_cell (HR.out.below (hb.mono hB)) hjn
          have hxl := HCO.out.le j (by omega)
          have hxn := HCO.out.ne j (by omega)
          obtain ⟨X, hX⟩ : ∃ X, S (l.getD j []) = X := ⟨_, rfl⟩
          have hxz : X.size ≤ 12 := by rw [← hX, S_size]; exact hxl
          have hx0 : 0 < X.size := by
            rw [← hX, S_size]
            rcases Nat.eq_zero_or_pos (l.getD j []).length with h | h
            · exact absurd (List.eq_nil_of_length_eq_zero h) hxn
            · exact h
          have HLX : Hid (L X = l.getD j []) := by rw [← hX]; exact L_S _
          rw [hX] at c0
          have hez : (s.extract k s.size).size = s.size - k := by rw [ByteArray.size_extract]; omega
          have HPX : Hid (∀ W, Calls Tryd.prog 34 #[.string (s.extract k s.size), .string X] W fun e W' => e = .returned (.bool (pfx (l.getD j []) ((L s).drop k))) ∧ W' = W) := fun W => by
            have h := Tryd.strings_HasPrefix (s.extract k s.size) X W
            have e2 : (L s).drop k = L (s.extract k s.size) := by rw [L_extract, List.take_of_length_le (by rw [List.length_drop, L_len]; exact Nat.le_refl _)]
            rw [e2, ← HLX.out]
            exact h
          clear hX hxl hxn
          cases hp : pfx (l.getD j []) ((L s).drop k) with
          | false =>
            have HS2 : Hid (SaysR R s.size (wayS l (L s) k (j + 1))) := fun i hi => (HS.out i hi).trans (by rw [wayS_skip hp])
            rw [hp] at HPX
            clear hp
            go_wp2_with fail
            refine (HPX.out _).mono ?_
            rintro e w2 ⟨rfl, rfl⟩
            go_wp2_with fail
            go_roundw
            case rel => exact ⟨j + 1, R, by omega, by go_num, HA, HS2, hb⟩
            case measure => simp [intOf]; omega
          | true =>
            have hpl := pfx_len hp
            rw [← HLX.out, L_len, List.length_drop, L_len] at hpl
            obtain ⟨a, ha⟩ : ∃ a : Nat, k + X.size = a := ⟨_, rfl⟩
            have hka : (k : Int) + (X.size : Int) = (a : Int) := by omega
            have has : a < s.size + 1 := by omega
            obtain ⟨v1, hv1⟩ : ∃ v, v = R.getD a 0 := ⟨_, rfl⟩
            obtain ⟨v2, hv2⟩ : ∃ v, v = wrap64 (cntC l (L s) k : Int) := ⟨_, rfl⟩
            have HS2 : Hid (SaysR (R.set a (wrap64 (v1 + v2))) s.size (wayS l (L s) k (j + 1))) := saysR_hit HS.out HA.out.len hp (by rw [← HLX.out, L_len]; exact ha) (by omega) hv1 hv2
            have ca := HA.out.at_ (k := a) (by omega)
            have ck := HA.out.at_ (k := k) (by omega)
            have fa := HA.out.free a
            rw [← hv1] at ca
            rw [HS.out k (by omega), wayS_read HCO.out (by rw [HLS.out]; omega) (by omega), ← hv2] at ck
            have HA2 := Lib.hid (HA.out.set_ a (wrap64 (v1 + v2)))
            have hb4 : Below w.heap.size w (wr.setCell ⟨g, a, none⟩ (.int .i64 (wrap64 (v1 + v2)))) := Below.setCell hb HA.out.lt.1 _
            rw [hp] at HPX
            clear hp hv1 hv2 ha
            go_wp2_with fail
            refine (HPX.out _).mono ?_
            rintro e w2 ⟨rfl, rfl⟩
            go_wp2_with fail
            obtain ⟨F1, hFd⟩ : ∃ F : World → Prop, F = fun w' => w'.cell? ⟨g, a, none⟩ = some (.int .i64 v1) ∧ w'.cell? ⟨g, k, none⟩ = some (.int .i64 v2) := ⟨_, rfl⟩
            have HF1 := Lib.hid hFd
            clear hFd
            have hcell10 : ∀ p' : Wof F1, p'.w.cell? ⟨g, a, none⟩ = some (.int .i64 v1) := fun ⟨x, hx⟩ => by rw [HF1.out] at hx; exact hx.1
            have hcell11 : ∀ p' : Wof F1, p'.w.cell? ⟨g, k, none⟩ = some (.int .i64 v2) := fun ⟨x, hx⟩ => by rw [HF1.out] at hx; exact hx.2
            refine wp_region_schedZ [(0, true), (1, true), (2, true), (3, true), (4, true), (5, true), (6, true), (7, true), (8, true), (9, true), (10, true), (11, true), (12, true)] 13 _ F1 (by kernel_rfl) (by kernel_rfl) rfl (by kernel_rfl) rfl (fun _ _ _ _ _ h => h) (by kernel_rfl) (by rw [HF1.out]; first | trivial | (repeat' apply And.intro) <;> assumption | (simp; done) | (simp [*]; done)) (by rw [HF1.out]; exact fun h => h) ?_
            intro hne1
            simp only [opersOf, List.getElem?_toArray, List.getElem?_cons_succ, List.getElem?_cons_zero]
            repeat (first | (refine wpSched_free rfl ?_; intro K hK; go_big_quiet_op; go_big_quiet_on) | (refine wpSched_wantS _ rfl rfl rfl ?_; intro K hK; go_big_quiet_op; go_big_quiet_on) | (refine wpSched_skipS _ rfl rfl rfl rfl ?_; simp only [Act.put, List.setIfInBounds_toArray, List.set_cons_zero, List.set_cons_succ]) | (refine wpSched_skipU _ rfl rfl rfl ?_; simp only [Act.put, List.setIfInBounds_toArray, List.set_cons_zero, List.set_cons_succ]))
            refine wpSched_nil ?_
            refine qz_nil ?_
            clear HF1 hcell10 hcell11 hne1
            go_wp2_with fail
            go_roundw
            case rel => exact ⟨j + 1, _, by omega, by go_num, Lib.hid (ArrI.drewN HA2.out 1), HS2, hb4.drew⟩
            case measure => simp [intOf]; omega
        · obtain rfl : j = n := by omega
          have g3 : decide ((j : Int) < (j : Int)) = false := decide_eq_false (by omega)
          have g3' : decide (j < j) = false := decide_eq_false hjn
          have HS2 : Hid (SaysR R s.size (wayS l (L s) (k + 1) 0)) := fun i hi => (HS.out i hi).trans (by rw [← HLN.out, wayS_next])
          go_wp2_with fail
          go_roundw
          case rel => exact ⟨k + 1, R, by omega, by go_num, HA, HS2, hb⟩
          case measure => simp [intOf]; omega
    · obtain rfl : k = s.size := by omega
      have g2 : decide ((s.size : Int) < (s.size : Int)) = false := decide_eq_false (by omega)
      have g2' : decide (s.size < s.size) = false := decide_eq_false hlt
      have c0 := HA.out.at_ (k := s.size) (by omega)
      rw [HS.out _ (Nat.le_refl _), wayS_read HCO.out (by rw [HLS.out]; exact Nat.le_refl _) (Nat.zero_le _)] at c0
      go_wp2_with fail
      go_ret2
      exact ⟨rfl, hb⟩
end Go.Proofs.YtmmamdjbbpeifaaDoor
