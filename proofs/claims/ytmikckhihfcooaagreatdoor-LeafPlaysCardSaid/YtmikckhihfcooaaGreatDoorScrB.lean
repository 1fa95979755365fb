/- script.number. -/
import Derived.Test.YtmikckhihfcooaaGreatDoorScr1
import Derived.Test.YtmikckhihfcooaaGreatDoorSched
namespace Go.Proofs.YtmikckhihfcooaaGreatDoor
open Go.RowKit
theorem L_getD {s : ByteArray} {k : Nat} (hk : k < s.size) : (L s).getD k 0 = s[k] := by
  rw [List.getD_eq_getElem?_getD, List.getElem?_eq_getElem (by rw [L_len]; exact hk)]; rfl
theorem take_snoc {l : List UInt8} {k : Nat} (hk : k < l.length) : l.take (k + 1) = l.take k ++ [l.getD k 0] := by
  rw [List.take_add_one, List.getElem?_eq_getElem hk, List.getD_eq_getElem?_getD, List.getElem?_eq_getElem hk]; rfl
theorem pre_snoc {l : List UInt8} {k : Nat} {c : UInt8} (hk : k < l.length) (h : ∀ b ∈ l.take k, b ≠ c) (h1 : l.getD k 0 ≠ c) : ∀ b ∈ l.take (k + 1), b ≠ c := fun b hb => by
  rw [take_snoc hk, List.mem_append] at hb
  rcases hb with hb | hb
  · exact h b hb
  · rw [List.mem_singleton.1 hb]; exact h1
theorem dec_snoc {l : List UInt8} {k n : Nat} (hk : k < l.length) (h : Lib.decFrom 0 (l.take k) = some n) : Lib.decFrom 0 (l.take (k + 1)) = if 48 ≤ (l.getD k 0).toNat ∧ (l.getD k 0).toNat ≤ 57 then some (n * 10 + ((l.getD k 0).toNat - 48)) else none := by
  rw [take_snoc hk, dec_app, h]
  simp only [Lib.decFrom, Lib.digitVal]
  split <;> rename_i h1 <;> split at h1 <;> simp_all
set_option maxRecDepth 100000 in
set_option maxHeartbeats 4000000 in
theorem number_any (s : ByteArray) (c : UInt8) (most : Nat) (hm9 : most ≤ 999) (hs : s.size ≤ 140737488355328) (w : World) :
    Calls Tryz.prog 53 #[.string s, .int .u8 (c.toNat : Int), .int .i64 (most : Int)] w fun e w' => ∃ (n : Int) (rest : ByteArray) (ok : Bool), e = .returned (.tuple #[.int .i64 n, .string rest, .bool ok]) ∧
      (ok = true → ∃ v : Nat, n = (v : Int) ∧ v ≤ most ∧ rest.size < s.size ∧ progNum (L s) c most = some (v, L rest)) ∧ (ok = false → progNum (L s) c most = none) ∧ Below w.heap.size w w' := by
  go_enter Tryz.func53, Tryz.ntmps53
  go_wp2_with fail
  go_loopw [9, 14] (fun nv iv wr => ∃ n k : Nat, k ≤ s.size ∧ nv = .int .i64 (n : Int) ∧ n ≤ most ∧ iv = .int .i64 (k : Int) ∧ Hid (Lib.decFrom 0 ((L s).take k) = some n ∧ ∀ b ∈ (L s).take k, b ≠ c) ∧ wr = w) (fun _ iv _ => s.size - (intOf iv).toNat)
  case atStart => exact ⟨0, 0, Nat.zero_le _, rfl, Nat.zero_le _, rfl, Lib.hid ⟨rfl, by simp⟩, rfl⟩
  case round =>
    obtain ⟨n, k, hk, rfl, hnm, rfl, HI, rfl⟩ := hrel
    by_cases hlt : k < s.size
    · have g1 : decide ((k : Int) < (s.size : Int)) = true := decide_eq_true (by omega)
      have g1' : decide (k < s.size) = true := decide_eq_true hlt
      have hkl : k < (L s).length := by rw [L_len]; exact hlt
      have HG := Lib.hid (L_getD hlt)
      by_cases hbc : s[k] = c
      · have g2 : ((s[k].toNat : Int) == (c.toNat : Int)) = true := by rw [hbc]; exact beq_self_eq_true _
        have g2' : (s[k].toNat == c.toNat) = true := by rw [hbc]; exact beq_self_eq_true _
        have HE := num_end hkl HI.out.2 HI.out.1 hnm hm9 (by rw [HG.out]; exact hbc)
        have hex : (s.extract (k + 1) s.size).size = s.size - (k + 1) := by rw [ByteArray.size_extract]; omega
        have HX : Hid (L (s.extract (k + 1) s.size) = (L s).drop (k + 1)) := by
          unfold Hid
          rw [L_extract, List.take_of_length_le (by rw [List.length_drop, L_len]; exact Nat.le_refl _)]
        rw [← HX.out] at HE
        have hs0 : 0 < s.size := by omega
        rw [L_getD hs0] at HE
        have HEH := Lib.hid HE
        clear hbc HG HX HE
        go_wp2_with fail
        clear g2 g2' g1 g1'
        rcases Nat.eq_zero_or_pos k with h0 | h0
        · subst h0
          have g3 : decide ((0 : Int) < ((0 : Nat) : Int)) = false := by decide
          have g3' : decide ((0 : Int) < 0) = false := by decide
          have HE2 : Hid (progNum (L s) c most = none) := HEH.out
          clear HEH
          go_quiet (fail)
          go_wp2_with fail
          (apply bodyPost_ret; (simp [results, Tryz.results53, go_sem]; rfl); rfl)
          exact ⟨_, _, false, rfl, (fun h => by cases h), (fun _ => HE2.out), (by repeat (first | exact Below.refl _ _ | assumption | refine Below.alloc ?_ (by first | exact Nat.le_refl _ | assumption | omega | (simp <;> omega)) _ | refine Below.setCell ?_ (by first | exact Nat.le_refl _ | assumption | omega | (simp <;> omega)) _ | refine Below.drew ?_ | refine below_drewN ?_ _))⟩
        · have g3 : decide ((0 : Int) < (k : Int)) = true := decide_eq_true (by omega)
          have g3' : decide (0 < k) = true := decide_eq_true h0
          by_cases h48 : s[0] = 48
          · have g4 : ((s[0].toNat : Int) == 48) = true := by rw [h48]; rfl
            have g4' : ((s[0].toNat : Int) != 48) = false := by rw [bne, g4]; rfl
            by_cases h1 : k = 1
            · subst h1
              have HE2 : Hid (progNum (L s) c most = some (n, L (s.extract (1 + 1) s.size))) := by
                have := HEH.out
                rw [h48] at this; exact this
              clear HEH h48
              go_quiet (fail)
              go_wp2_with fail
              (apply bodyPost_ret; (simp [results, Tryz.results53, go_sem]; rfl); rfl)
              exact ⟨(n : Int), s.extract 2 s.size, true, rfl, (fun _ => ⟨n, rfl, hnm, (by rw [ByteArray.size_extract]; omega), HE2.out⟩), (fun h => by cases h), (by repeat (first | exact Below.refl _ _ | assumption | refine Below.alloc ?_ (by first | exact Nat.le_refl _ | assumption | omega | (simp <;> omega)) _ | refine Below.setCell ?_ (by first | exact Nat.le_refl _ | assumption | omega | (simp <;> omega)) _ | refine Below.drew ?_ | refine below_drewN ?_ _))⟩
            · have g5 : ((k : Int) == 1) = false := by rw [beq_eq_false_iff_ne]; omega
              have g5' : (k == 1) = false := by rw [beq_eq_false_iff_ne]; exact h1
              have HE2 : Hid (progNum (L s) c most = none) := by
                have := HEH.out
                rw [if_neg (by rw [h48]; simp; exact fun _ => h1)] at this
                exact this
              clear HEH h48 h1
              go_quiet (fail)
              go_wp2_with fail
              (apply bodyPost_ret; (simp [results, Tryz.results53, go_sem]; rfl); rfl)
              exact ⟨_, _, false, rfl, (fun h => by cases h), (fun _ => HE2.out), (by repeat (first | exact Below.refl _ _ | assumption | refine Below.alloc ?_ (by first | exact Nat.le_refl _ | assumption | omega | (simp <;> omega)) _ | refine Below.setCell ?_ (by first | exact Nat.le_refl _ | assumption | omega | (simp <;> omega)) _ | refine Below.drew ?_ | refine below_drewN ?_ _))⟩
          · have hz : s[0].toNat ≠ 48 := fun e => h48 (UInt8.toNat_inj.1 (e.trans (rfl : 48 = (48 : UInt8).toNat)))
            have g4 : ((s[0].toNat : Int) == 48) = false := by rw [beq_eq_false_iff_ne]; omega
            have g4' : ((s[0].toNat : Int) != 48) = true := by rw [bne, g4]; rfl
            have HE2 : Hid (progNum (L s) c most = some (n, L (s.extract (k + 1) s.size))) := by
              have := HEH.out
              rw [if_pos (by simp [h48]; omega)] at this
              exact this
            clear HEH h48 hz
            go_quiet (fail)
            go_wp2_with fail
            (apply bodyPost_ret; (simp [results, Tryz.results53, go_sem]; rfl); rfl)
            exact ⟨_, _, true, rfl, (fun _ => ⟨n, rfl, hnm, (by omega), HE2.out⟩), (fun h => by cases h), (by repeat (first | exact Below.refl _ _ | assumption | refine Below.alloc ?_ (by first | exact Nat.le_refl _ | assumption | omega | (simp <;> omega)) _ | refine Below.setCell ?_ (by first | exact Nat.le_refl _ | assumption | omega | (simp <;> omega)) _ | refine Below.drew ?_ | refine below_drewN ?_ _))⟩
      · have hne : s[k].toNat ≠ c.toNat := fun e => hbc (UInt8.toNat_inj.1 e)
        have g2 : ((s[k].toNat : Int) == (c.toNat : Int)) = false := by rw [beq_eq_false_iff_ne]; omega
        have hps := pre_snoc hkl HI.out.2 (by rw [HG.out]; exact hbc)
        have hds := dec_snoc hkl HI.out.1
        have HPS := Lib.hid hps
        obtain ⟨bn, hbn0⟩ : ∃ bn, bn = ((L s).getD k 0).toNat := ⟨_, rfl⟩
        rw [← hbn0] at hds
        have hbn : bn = s[k].toNat := hbn0.trans (congrArg UInt8.toNat (L_getD hlt))
        have HDS : Hid ((48 ≤ bn ∧ bn ≤ 57 → Lib.decFrom 0 ((L s).take (k + 1)) = some (n * 10 + (bn - 48))) ∧ (¬ (48 ≤ bn ∧ bn ≤ 57) → Lib.decFrom 0 ((L s).take (k + 1)) = none)) :=
          ⟨fun h => by rw [if_pos h] at hds; exact hds, fun h => by rw [if_neg h] at hds; exact hds⟩
        have HBN := Lib.hid hbn
        clear hps hds hbc HI HG hne hbn hbn0
        go_wp2_with fail
        all_goals first
          | (go_roundw
             case rel =>
               have hbn := HBN.out
               have hd := HDS.out.1 (by omega)
               exact ⟨n * 10 + (bn - 48), k + 1, by omega, congrArg (Value.int .i64) (by omega), by omega, by go_num, Lib.hid ⟨hd, HPS.out⟩, by first | rfl | trivial⟩
             case measure => simp [intOf]; omega)
          | ((apply bodyPost_ret; (simp [results, Tryz.results53, go_sem]; rfl); rfl)
             first
               | refine ⟨_, _, .inl ⟨rfl, ?_, Below.refl _ _⟩⟩
               | refine ⟨_, _, false, rfl, (fun h => by cases h), (fun _ => ?_), Below.refl _ _⟩
             have hbn := HBN.out
             by_cases hdg : 48 ≤ bn ∧ bn ≤ 57
             · exact num_much HPS.out (HDS.out.1 hdg) (by omega)
             · exact num_stop HPS.out (HDS.out.2 hdg))
    · obtain rfl : k = s.size := by omega
      have g1 : decide ((s.size : Int) < (s.size : Int)) = false := decide_eq_false (by omega)
      have g1' : decide (s.size < s.size) = false := decide_eq_false hlt
      have HE2 : Hid (progNum (L s) c most = none) := by
        have h := HI.out.2
        rw [List.take_of_length_le (by rw [L_len]; exact Nat.le_refl _)] at h
        exact num_none h
      go_wp2_with fail
      (apply bodyPost_ret; (simp [results, Tryz.results53, go_sem]; rfl); rfl)
      exact ⟨_, _, false, rfl, (fun h => by cases h), (fun _ => HE2.out), Below.refl _ _⟩
end Go.Proofs.YtmikckhihfcooaaGreatDoor
