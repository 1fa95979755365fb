/- The document's HitsOf. -/
import Derived.Test.YtmmamdjbbpeifaaShelf
import Derived.Test.YtmmamdjbbpeifaaTriD
import Derived.Test.YtmmamdjbbpeifaaTri2
import Derived.Test.YtmmamdjbbpeifaaEditW
namespace Go.Proofs.Ytmmamdjbbpeifaa
open Go.RowKit
def hcC (h : Nat × Nat) : List Value := [.int .i64 (h.1 : Int), .int .i64 (h.2 : Int)]
def hcCells (l : List (Nat × Nat)) : List Value := l.flatMap hcC
theorem hc_len (x : Nat × Nat) : (hcC x).length = 2 := rfl
theorem hcCells_len (l : List (Nat × Nat)) : (hcCells l).length = l.length * 2 := flat_len hc_len l
theorem hcCells_app (a b : List (Nat × Nat)) : hcCells (a ++ b) = hcCells a ++ hcCells b := by simp [hcCells]
theorem hcCells_one (a b : Nat) : hcCells [(a, b)] = [.int .i64 (a : Int), .int .i64 (b : Int)] := rfl
theorem info_hit : (Try.prog.info? 49).map (fun i => (i.zero, i.size, i.bytes)) = some (some (.agg #[.int .i64 0, .int .i64 0]), 2, 16) := by kernel_rfl
theorem drop_hid (s : ByteArray) (i : Nat) : Hid ((s.extract i s.size).data.toList = (L s).drop i) := by
  have := L_extract s i s.size
  rw [List.take_of_length_le (by rw [List.length_drop, L_len]; exact Nat.le_refl _)] at this
  exact this
set_option maxRecDepth 100000 in
set_option maxHeartbeats 4000000 in
theorem hitsOf_any (s : ByteArray) (hs : s.size ≤ 200) (A : Option Addr) (n c B : Nat) (l : List (List UInt8)) (w : World) (hr : Rd w B 1 A n (strCells l)) (hB : B ≤ w.heap.size) (hn : n ≤ 10) :
    Calls Try.prog 29 #[.string s, .slice A n c] w fun e w' => ∃ v, e = .returned v ∧ w'.ownsRow w.heap.size 49 2 v (hitsTo l (L s) s.size).length (hcCells (hitsTo l (L s) s.size)) ∧ Below w.heap.size w w' := by
  obtain ⟨i0, hi0, hz0, hz1, hz2⟩ := info_parts info_hit
  have hl : l.length = n := by have := hr.1; simpa [strCells] using this
  have HR := Lib.hid hr
  have HL := Lib.hid hl
  clear hr hl
  go_enter Try.func29, Try.ntmps29
  go_wp2_with fail
  go_loopw [5, 11] (fun ov iv wr => ∃ i : Nat, i ≤ s.size ∧ iv = .int .i64 (i : Int) ∧ wr.ownsRow w.heap.size 49 2 ov (hitsTo l (L s) i).length (hcCells (hitsTo l (L s) i)) ∧ Below w.heap.size w wr) (fun _ iv _ => s.size - (intOf iv).toNat)
  case atStart => exact ⟨0, Nat.zero_le _, rfl, World.ownsRow_nil _ _ _ _, Below.refl _ _⟩
  case round =>
    obtain ⟨i, hi, rfl, hown, hb⟩ := hrel
    have hbs := hb.size
    have hlen := hitsTo_len (ps := l) (s := L s) i
    rw [HL.out] at hlen
    have hm := Nat.mul_le_mul hi hn
    by_cases hlt : i < s.size
    · have g1 : decide ((i : Int) < (s.size : Int)) = true := decide_eq_true (by omega)
      have g1' : decide (i < s.size) = true := decide_eq_true hlt
      have HNX : Hid (hitsTo l (L s) (i + 1) = hitsTo l (L s) i ++ hitsAt l (L s) i n) := by rw [Hid, hitsTo_snoc, HL.out]
      have HO := Lib.hid hown
      obtain ⟨q0, hq0⟩ : ∃ q0, hitsTo l (L s) i = q0 := ⟨_, rfl⟩
      rw [hq0] at HO HNX hlen
      have hq200 : q0.length ≤ 2000 := by omega
      have HD := drop_hid s i
      clear hown hq0 hlen hm
      go_wp2_with fail
      go_loopw [5, 16] (fun ov kv w2 => ∃ k : Nat, k ≤ n ∧ kv = .int .i64 (k : Int) ∧ w2.ownsRow w.heap.size 49 2 ov (q0 ++ hitsAt l (L s) i k).length (hcCells (q0 ++ hitsAt l (L s) i k)) ∧ Below w.heap.size w w2) (fun _ kv _ => n - (intOf kv).toNat)
      case atStart => exact ⟨0, Nat.zero_le _, rfl, by simpa [hitsAt] using HO.out, hb⟩
      case round =>
        clear HO hb hbs
        obtain ⟨k, hk, rfl, hown, hb⟩ := hrel
        have hbs := hb.size
        by_cases hkn : k < n
        · have g2 : decide ((k : Int) < (n : Int)) = true := decide_eq_true (by omega)
          have g2' : decide (k < n) = true := decide_eq_true hkn
          obtain ⟨ad, rfl, _, c0⟩ := str_cell (HR.out.below (hb.mono hB)) hkn
          have HSN := Lib.hid (hitsAt_snoc (ps := l) (s := L s) i k)
          have HHP := Lib.hid (Try.strings_HasPrefix (s.extract i s.size) (S (l.getD k [])) wr)
          rw [HD.out, S_data] at HHP
          have hql : (q0 ++ hitsAt l (L s) i k).length ≤ 2010 := by
            rw [List.length_append]
            have := hitsAt_len (ps := l) (s := L s) i k
            omega
          have HO := Lib.hid hown
          clear hown
          cases hp : (l.getD k []).isPrefixOf ((L s).drop i) with
          | true =>
            have HV : Hid (q0 ++ hitsAt l (L s) i (k + 1) = q0 ++ hitsAt l (L s) i k ++ [(i, k)]) := by rw [Hid, HSN.out, if_pos hp, List.append_assoc]
            have HHQ : Hid (Calls Try.prog 26 #[.string (s.extract i s.size), .string (S (l.getD k []))] wr fun e w' => e = .returned (.bool true) ∧ w' = wr) := by
              have h := HHP.out
              unfold Lib.hasPrefix at h
              rw [hp] at h
              exact h
            clear HHP HSN hp
            generalize l.getD k [] = p at *
            generalize q0 ++ hitsAt l (L s) i k = q at *
            go_wp2_with fail
            refine HHQ.out.mono ?_
            rintro e w3 ⟨rfl, rfl⟩
            have hnew := cells_new2 w3 (.int .i64 (i : Int)) (.int .i64 (k : Int)) 49
            have hownA := HO.out.alloc (.cells #[.int .i64 (i : Int), .int .i64 (k : Int)] 49)
            go_wp2_with (at_builtin; go_must (refine wpList_app rfl _ _ _ rfl w.heap.size 49 i0 _ 2 16 Try.underlying40 hi0 hz0 hz1 hz2 rfl (by omega) _ q.length (hcCells q) rfl hownA ⟨w3.heap.size, 0, none⟩ 1 1 [.int .i64 (i : Int), .int .i64 (k : Int)] rfl rfl hnew (by simp [Value.oneCell']) (by omega) (by omega) (by simp; omega) ?_); intro v6 w6 hown6 hb6)
            have HN : Hid (w6.ownsRow w.heap.size 49 2 v6 (q ++ [(i, k)]).length (hcCells (q ++ [(i, k)]))) := by
              rw [Hid, hcCells_app, hcCells_one, List.length_append]; exact hown6
            have hb7 : Below w.heap.size w w6 := (hb.alloc hbs _).trans hb6
            clear hown6 hownA hnew
            go_roundw
            case rel => exact ⟨k + 1, by omega, by go_num, by rw [HV.out]; exact HN.out, hb7⟩
            case measure => simp [intOf]; omega
          | false =>
            have HV : Hid (q0 ++ hitsAt l (L s) i (k + 1) = q0 ++ hitsAt l (L s) i k) := by rw [Hid, HSN.out, if_neg (by rw [hp]; decide), List.append_nil]
            have HHQ : Hid (Calls Try.prog 26 #[.string (s.extract i s.size), .string (S (l.getD k []))] wr fun e w' => e = .returned (.bool false) ∧ w' = wr) := by
              have h := HHP.out
              unfold Lib.hasPrefix at h
              rw [hp] at h
              exact h
            clear HHP HSN hp
            generalize l.getD k [] = p at *
            go_wp2_with fail
            refine HHQ.out.mono ?_
            rintro e w3 ⟨rfl, rfl⟩
            go_wp2_with fail
            go_roundw
            case rel => exact ⟨k + 1, by omega, by go_num, by rw [HV.out]; exact HO.out, hb⟩
            case measure => simp [intOf]; omega
        · obtain rfl : k = n := by omega
          have g2 : decide ((k : Int) < (k : Int)) = false := decide_eq_false (by omega)
          have g2' : decide (k < k) = false := decide_eq_false hkn
          rw [← HNX.out] at hown
          have HO := Lib.hid hown
          clear hown
          go_wp2_with fail
          go_roundw
          case rel => exact ⟨i + 1, by omega, by go_num, HO.out, hb⟩
          case measure => simp [intOf]; omega
    · obtain rfl : i = s.size := by omega
      have g1 : decide ((s.size : Int) < (s.size : Int)) = false := decide_eq_false (by omega)
      have g1' : decide (s.size < s.size) = false := decide_eq_false hlt
      have HO := Lib.hid hown
      clear hown
      go_wp2_with fail
      go_ret
      exact ⟨_, rfl, HO.out, hb⟩
end Go.Proofs.Ytmmamdjbbpeifaa
