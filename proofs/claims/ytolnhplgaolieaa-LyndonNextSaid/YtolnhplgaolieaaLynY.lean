/- The document's next word. -/
import Derived.Test.YtolnhplgaolieaaLynX
import Derived.Test.YtolnhplgaolieaaShelf
import Derived.BigRegion
namespace Go.Proofs.Ytolnhplgaolieaa
open Go.RowKit
def nextOk (s : List UInt8) (n : Nat) (last : UInt8) : Bool := !(stp (wd s n) last n == 0)
def nextT (s : List UInt8) (n : Nat) (last : UInt8) : List UInt8 := if stp (wd s n) last n = 0 then [] else nextW s n last
set_option maxRecDepth 100000 in
set_option maxHeartbeats 8000000 in
theorem nextOf_any (s : ByteArray) (N : Nat) (last : UInt8) (h0 : 0 < s.size) (hsN : s.size ≤ N) (hN : N ≤ 200) (hng : anyGt (L s) last = false) (w : World) :
    Calls Try.prog 37 #[.string s, .int .i64 (N : Int), .int .u8 (last.toNat : Int)] w fun e w' => e = .returned (.tuple #[.string (S (nextT (L s) N last)), .bool (nextOk (L s) N last)]) ∧ Below w.heap.size w w' := by
  have HNG : Hid (∀ i, ¬ last < wdb (L s) i) := fun i => by
    unfold anyGt at hng
    rw [List.any_eq_false] at hng
    have hi : i % (L s).length < (L s).length := Nat.mod_lt _ (by rw [L_len]; exact h0)
    have := hng _ (List.getElem_mem hi)
    unfold wdb
    rw [List.getD_eq_getElem?_getD, List.getElem?_eq_getElem hi]
    simpa using this
  clear hng
  have HT0 : Hid (stp (wd (L s) N) last N = 0 → nextT (L s) N last = [] ∧ nextOk (L s) N last = false) := fun h => by
    unfold nextT nextOk; rw [if_pos h, h]; exact ⟨rfl, rfl⟩
  have HT1 : Hid (∀ m, stp (wd (L s) N) last N = m + 1 → nextT (L s) N last = wd (L s) m ++ [wdb (L s) m + 1] ∧ nextOk (L s) N last = true) := fun m h => by
    unfold nextT nextOk nextW; rw [if_neg (by omega), h, Nat.add_sub_cancel]
    exact ⟨rfl, rfl⟩
  obtain ⟨q, hq⟩ : ∃ q : Nat, q = N / s.size := ⟨_, rfl⟩
  have hqN : q ≤ 200 := by rw [hq]; exact Nat.le_trans (Nat.div_le_self _ _) hN
  have hqq : N ≤ (q + 1) * s.size := by
    rw [hq, Nat.succ_mul]
    have e1 := Nat.div_add_mod N s.size
    have e2 := Nat.mod_lt N h0
    rw [Nat.mul_comm s.size] at e1
    omega
  have hqs : (q + 1) * s.size ≤ 201 * 200 := Nat.mul_le_mul (by omega) (by omega)
  have gq : wrap64 ((N : Int) / (s.size : Int)) = (q : Int) := by rw [wrap_div hN, hq]
  clear hq
  obtain ⟨X, HXC, HX1, hX2⟩ : ∃ X : ByteArray, Hid (∀ w : World, Calls Try.prog 57 #[.string s, .int .i64 ((q : Int) + 1)] w fun e w' => e = .returned (.string X) ∧ Below w.heap.size w w') ∧ Hid (X.extract 0 N = S (wd (L s) N)) ∧ N ≤ X.size := by
    refine ⟨S (Lib.repeatL (L s) (q + 1)), fun w => ?_, ?_, ?_⟩
    · have := Try.strings_Repeat s (q + 1) w (by omega) (by rw [Nat.mul_comm]; omega)
      exact this
    · unfold Hid
      rw [extract_S, List.drop_zero, Nat.sub_zero, L_S, repeatL_flat, wd_rep _ (by rw [L_len]; exact hqq)]
    · rw [S_size, Lib.repeatL_length, L_len]; exact hqq
  clear hqq hqs
  have HWL : Hid ((wd (L s) N).length = N) := wd_len _ _
  have HWT : Hid (∀ m, m ≤ N → (wd (L s) N).take m = wd (L s) m) := fun m h => wd_take _ h
  have HWA : Hid (∀ m, m < N → (wd (L s) N).getD m 0 = wdb (L s) m) := fun m h => wd_at _ h
  have hszW : (S (wd (L s) N)).size = N := by rw [S_size]; exact HWL.out
  generalize nextT (L s) N last = T at *
  generalize nextOk (L s) N last = okB at *
  generalize wd (L s) N = W at *
  go_enter Try.func37, Try.ntmps37
  go_wp2_with fail
  refine (HXC.out _).mono ?_
  rintro e w1 ⟨rfl, hb1⟩
  go_wp2_with fail
  rw [HX1.out]
  clear HXC HX1 hX2 gq
  go_loopw [9] (fun i wr => ∃ k : Nat, k ≤ N ∧ i = .int .i64 ((k : Int) - 1) ∧ stp W last N = stp W last k ∧ Below w.heap.size w wr) (fun i _ => (intOf i + 1).toNat)
  case atStart => exact ⟨N, Nat.le_refl _, rfl, rfl, hb1⟩
  case round =>
    clear hb1
    obtain ⟨k, hk, rfl, hst, hb⟩ := hrel
    have HST := Lib.hid hst
    clear hst
    rcases Nat.eq_zero_or_pos k with hk0 | hk0
    · subst hk0
      have g1 : decide ((0 : Int) ≤ ((0 : Nat) : Int) - 1) = false := by decide
      obtain ⟨h1, h2⟩ := HT0.out (by rw [HST.out]; rfl)
      have HTT := Lib.hid h1
      have HOO := Lib.hid h2
      clear h1 h2
      go_wp2_with fail
      go_ret2
      rw [HTT.out, HOO.out]
      exact ⟨rfl, hb⟩
    · obtain ⟨m, rfl⟩ : ∃ m, k = m + 1 := ⟨k - 1, by omega⟩
      have g1 : decide ((0 : Int) ≤ (((m + 1 : Nat) : Int) - 1)) = true := decide_eq_true (by omega)
      have hmW : m < (S W).size := by omega
      have e1 := getB (S W) m hmW
      rw [L_S, HWA.out m (by omega)] at e1
      have HSM : Hid (stp W last (m + 1) = if W.getD m 0 = last then stp W last m else m + 1) := rfl
      rw [HWA.out m (by omega)] at HSM
      by_cases hx : wdb (L s) m = last
      · have HN : Hid (stp W last N = stp W last m) := by unfold Hid; rw [HST.out, HSM.out, if_pos hx]
        have g2 : decide ((S W)[m].toNat < last.toNat) = false := by rw [decide_eq_false_iff_not, e1, hx]; omega
        clear e1 hx
        go_wp2_with fail
        go_roundw
        case rel => exact ⟨m, by omega, by go_num, HN.out, hb⟩
        case measure => simp [intOf]
      · have HM : Hid (stp W last N = m + 1) := by unfold Hid; rw [HST.out, HSM.out, if_neg hx]
        have hlt : (S W)[m] < last := by
          rw [e1]
          have h1 : ¬ last.toNat < (wdb (L s) m).toNat := HNG.out m
          have h2 : (wdb (L s) m).toNat ≠ last.toNat := fun h => hx (UInt8.toNat_inj.1 h)
          show (wdb (L s) m).toNat < last.toNat
          omega
        have g2 : decide ((S W)[m].toNat < last.toNat) = true := decide_eq_true hlt
        have gU := u8_succ hlt
        obtain ⟨h1, h2⟩ := HT1.out m HM.out
        rw [← e1] at h1
        have HTT := Lib.hid h1
        have HOO := Lib.hid h2
        clear h1 h2 e1 hx hlt HNG HSM HST HM HT0 HT1
        generalize (S W)[m] + 1 = y at *
        have hcv : (convert 52 9 (.slice (some ⟨wr.heap.size, 0, none⟩) 1 1)).run Try.prog ((wr.alloc (.cells #[.int .u8 (y.toNat : Int)] 5)).drew) = .ok (.string (S [y])) ((wr.alloc (.cells #[.int .u8 (y.toNat : Int)] 5)).drew) :=
          run_bytes_string _ Try.underlying52 Try.underlying5 Try.underlying9 (B := wr.heap.size + 1) (l := [y]) (Rd.new_ (n := 1) (size := 1) wr #[.int .u8 (y.toNat : Int)] 5 (Nat.lt_succ_self _) rfl).drew
        have hz1 : (S [y]).size ≤ 1 := by rw [S_size]; exact Nat.le_refl _
        have hz2 := sz_extract (S W) 0 m (by omega)
        have hbs := hb.size
        have hbA : Below w.heap.size w (wr.alloc (.cells #[.int .u8 (y.toNat : Int)] 5)).drew := (by repeat (first | exact Below.refl _ _ | assumption | refine Below.alloc ?_ (by first | exact Nat.le_refl _ | assumption | omega | (simp <;> omega)) _ | refine Below.setCell ?_ (by first | exact Nat.le_refl _ | assumption | omega | (simp <;> omega)) _ | refine Below.drew ?_ | refine below_drewN ?_ _))
        have HFIN : Hid ((S W).extract 0 m ++ S [y] = S T) := by
          unfold Hid
          rw [append_S, L_S, L_extract, L_S, List.drop_zero, Nat.sub_zero, HWT.out m (by omega), HTT.out]
        go_wp2_with fail
        go_region
        go_wp2_with fail
        go_ret2
        rw [← HFIN.out, HOO.out]
        exact ⟨rfl, hbA⟩
end Go.Proofs.Ytolnhplgaolieaa
