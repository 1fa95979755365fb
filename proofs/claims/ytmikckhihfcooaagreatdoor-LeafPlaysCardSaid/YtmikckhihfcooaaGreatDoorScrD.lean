/- script.Read. -/
import Derived.Test.YtmikckhihfcooaaGreatDoorScrB
import Derived.Test.YtmikckhihfcooaaGreatDoorScrC
import Derived.Test.YtmikckhihfcooaaGreatDoorEditA
namespace Go.Proofs.YtmikckhihfcooaaGreatDoor
open Go.RowKit
def strSz : Value → Nat
  | .string t => t.size
  | _ => 0
theorem entryP_0 {s : List UInt8} (h : progNum s 32 200 = none) : entryP s = none := by unfold entryP; rw [h]
theorem entryP_1 {s r1 : List UInt8} {a : Nat} (h1 : progNum s 32 200 = some (a, r1)) (h : progNum r1 32 200 = none) : entryP s = none := by
  unfold entryP; rw [h1]; simp only; rw [h]
theorem entryP_2 {s r1 r2 : List UInt8} {a d : Nat} (h1 : progNum s 32 200 = some (a, r1)) (h2 : progNum r1 32 200 = some (d, r2)) (h : progNum r2 58 40 = none) : entryP s = none := by
  unfold entryP; rw [h1]; simp only; rw [h2]; simp only; rw [h]
theorem entryP_3 {s r1 r2 r3 : List UInt8} {a d n : Nat} (h1 : progNum s 32 200 = some (a, r1)) (h2 : progNum r1 32 200 = some (d, r2)) (h3 : progNum r2 58 40 = some (n, r3)) : entryP s = rest3 r3 a d n := by
  unfold entryP; rw [h1]; simp only; rw [h2]; simp only; rw [h3]
def RdAns (s : List UInt8) (out : List Ed) (c : Int) : Prop := (readP 0 s = some out ∧ c = 0) ∨ (readP 0 s = none ∧ c = 12 ∧ out = [])
theorem nonempty_L {t : ByteArray} (h : t.size ≠ 0) : L t ≠ [] := fun e => h (by rw [← L_len, e]; rfl)
theorem L_pre (r : ByteArray) (n : Nat) : L (r.extract 0 n) = (L r).take n := by
  rw [L_extract, List.drop_zero, Nat.sub_zero]
theorem rest3_t {r : ByteArray} {a d n : Nat} (hn : n < r.size) (h : r[n] = 59) : rest3 (L r) a d n = some (⟨(a : Int), (d : Int), (L r).take n⟩, L (r.extract (n + 1) r.size)) := by
  unfold rest3
  rw [if_pos ⟨by rw [L_len]; exact hn, by rw [L_getD hn]; exact h⟩, L_extract, List.take_of_length_le (l := List.drop (n + 1) (L r)) (by rw [List.length_drop, L_len]; exact Nat.le_refl _)]
theorem rest3_f1 {r : ByteArray} {a d n : Nat} (hn : r.size ≤ n) : rest3 (L r) a d n = none := by
  unfold rest3
  rw [if_neg (fun h => by have := h.1; rw [L_len] at this; omega)]
theorem rest3_f2 {r : ByteArray} {a d n : Nat} (hn : n < r.size) (h : r[n] ≠ 59) : rest3 (L r) a d n = none := by
  unfold rest3
  rw [if_neg (fun h2 => h (by rw [← L_getD hn]; exact h2.2))]
set_option maxRecDepth 100000 in
set_option maxHeartbeats 16000000 in
theorem read_any (s : ByteArray) (hs : s.size ≤ 140737488355328) (w : World) :
    Calls Tryz.prog 43 #[.string s] w fun e w' => ∃ (v : Value) (out : List Ed) (c : Int), e = .returned (.tuple #[v, .int .i64 c]) ∧ RdAns (L s) out c ∧
      w'.ownsRow w.heap.size 67 3 v out.length (edCells out) ∧ Below w.heap.size w w' := by
  obtain ⟨i0, hi0, hz0, hz1, hz2⟩ := info_parts info_ed
  have HN32 : Hid (∀ (t : ByteArray) (W : World), t.size ≤ 140737488355328 → Calls Tryz.prog 53 #[.string t, .int .u8 32, .int .i64 200] W fun e w' => ∃ (n : Int) (rest : ByteArray) (ok : Bool), e = .returned (.tuple #[.int .i64 n, .string rest, .bool ok]) ∧
      (ok = true → ∃ v : Nat, n = (v : Int) ∧ v ≤ 200 ∧ rest.size < t.size ∧ progNum (L t) 32 200 = some (v, L rest)) ∧ (ok = false → progNum (L t) 32 200 = none) ∧ Below W.heap.size W w') := fun t W ht => number_any t 32 200 (by decide) ht W
  have HN58 : Hid (∀ (t : ByteArray) (W : World), t.size ≤ 140737488355328 → Calls Tryz.prog 53 #[.string t, .int .u8 58, .int .i64 40] W fun e w' => ∃ (n : Int) (rest : ByteArray) (ok : Bool), e = .returned (.tuple #[.int .i64 n, .string rest, .bool ok]) ∧
      (ok = true → ∃ v : Nat, n = (v : Int) ∧ v ≤ 40 ∧ rest.size < t.size ∧ progNum (L t) 58 40 = some (v, L rest)) ∧ (ok = false → progNum (L t) 58 40 = none) ∧ Below W.heap.size W w') := fun t W ht => number_any t 58 40 (by decide) ht W
  go_enter Tryz.func43, Tryz.ntmps43
  go_wp2_with fail
  go_loopw [0, 4] (fun sv ov wr => ∃ (t : ByteArray) (q : List Ed), sv = .string t ∧ t.size ≤ s.size ∧ q.length ≤ 20 ∧ Hid (readP 0 (L s) = (readP q.length (L t)).map (q ++ ·)) ∧
      wr.ownsRow w.heap.size 67 3 ov q.length (edCells q) ∧ Below w.heap.size w wr) (fun sv _ _ => strSz sv)
  case atStart => exact ⟨s, [], rfl, Nat.le_refl _, by simp, Lib.hid (by simp), World.ownsRow_nil _ _ _ _, Below.refl _ _⟩
  case round =>
    obtain ⟨t, q, rfl, hts, hq, HI, hown, hbr⟩ := hrel
    have hbs := hbr.size
    by_cases h0 : t.size = 0
    · obtain ⟨g2, g3⟩ := (emp_facts t).1 h0
      have HV : Hid (RdAns (L s) q 0) := .inl ⟨by
        have := HI.out
        rw [List.eq_nil_of_length_eq_zero ((L_len t).trans h0), readP_nil hq] at this
        simpa using this, rfl⟩
      have HO := Lib.hid hown
      clear h0 HI hown
      go_wp2_with fail
      go_ret2
      exact ⟨_, q, 0, rfl, HV.out, HO.out, hbr⟩
    obtain ⟨g2, g3⟩ := (emp_facts t).2 h0
    have hne := nonempty_L h0
    have HBAD : Hid (readP q.length (L t) = none → RdAns (L s) [] 12) := fun h => .inr ⟨by rw [HI.out, h]; rfl, rfl, rfl⟩
    by_cases h20 : q.length = 20
    · have g4 : ((q.length : Int) == 20) = true := by rw [beq_iff_eq]; omega
      have HV := Lib.hid (HBAD.out (by rw [h20]; exact readP_full hne))
      obtain ⟨A, c, rfl, hnc, hcm, hrx⟩ := own_form hown
      clear HI hown HBAD hne h20 hrx
      go_wp2_with fail
      go_ret2
      exact ⟨_, [], 12, rfl, HV.out, World.ownsRow_nil _ _ _ _, hbr⟩
    have g4 : ((q.length : Int) == 20) = false := by rw [beq_eq_false_iff_ne]; omega
    have HBADE : Hid (entryP (L t) = none → RdAns (L s) [] 12) := fun h => HBAD.out (by rw [readP_step hne, h])
    have HGO : Hid (∀ x t', entryP (L t) = some (x, L t') → readP 0 (L s) = (readP (q ++ [x]).length (L t')).map ((q ++ [x]) ++ ·)) := fun x t' h => by
      rw [HI.out, readP_step hne, h]
      simp only
      rw [map_app, List.length_append]; rfl
    have hO := Lib.hid hown
    obtain ⟨A, c, rfl, hnc, hcm, hrx⟩ := own_form hown
    have hq2 : q.length < 20 := by omega
    clear HI hown HBAD hne h20 hrx
    go_wp2_with fail
    refine (HN32.out t _ (by omega)).mono ?_
    rintro e w1 ⟨n1, r1, ok, rfl, hok, hno, hb1⟩
    cases ok with
    | false =>
      have HV := Lib.hid (HBADE.out (entryP_0 (hno rfl)))
      clear hok hno HBADE HGO
      go_wp2_with fail
      go_ret2
      exact ⟨_, [], 12, rfl, HV.out, World.ownsRow_nil _ _ _ _, bthen hbr hb1⟩
    | true =>
    obtain ⟨a, rfl, ha, hr1, HP1⟩ := hok rfl
    have HP1 := Lib.hid HP1
    clear hno hok
    go_wp2_with fail
    refine (HN32.out r1 _ (by omega)).mono ?_
    rintro e w2 ⟨n2, r2, ok, rfl, hok, hno, hb2⟩
    cases ok with
    | false =>
      have HV := Lib.hid (HBADE.out (entryP_1 HP1.out (hno rfl)))
      clear hok hno HBADE HGO HP1
      go_wp2_with fail
      go_ret2
      exact ⟨_, [], 12, rfl, HV.out, World.ownsRow_nil _ _ _ _, bthen hbr (bthen hb1 hb2)⟩
    | true =>
    obtain ⟨d, rfl, hd, hr2, HP2⟩ := hok rfl
    have HP2 := Lib.hid HP2
    clear hno hok
    go_wp2_with fail
    refine (HN58.out r2 _ (by omega)).mono ?_
    rintro e w3 ⟨n3, r3, ok, rfl, hok, hno, hb3⟩
    cases ok with
    | false =>
      have HV := Lib.hid (HBADE.out (entryP_2 HP1.out HP2.out (hno rfl)))
      clear hok hno HBADE HGO HP1 HP2
      go_wp2_with fail
      go_ret2
      exact ⟨_, [], 12, rfl, HV.out, World.ownsRow_nil _ _ _ _, bthen hbr (bthen hb1 (bthen hb2 hb3))⟩
    | true =>
    obtain ⟨n, rfl, hn, hr3, HP3⟩ := hok rfl
    have HEN := Lib.hid (entryP_3 HP1.out HP2.out HP3)
    clear hno hok HP1 HP2 HP3
    have hb4 := bthen hbr (bthen hb1 (bthen hb2 hb3))
    have hbs4 := hb4.size
    by_cases hlt : n < r3.size
    · have g5 : decide ((r3.size : Int) ≤ (n : Int)) = false := decide_eq_false (by omega)
      have g5' : decide (r3.size ≤ n) = false := decide_eq_false (by omega)
      by_cases h59 : r3[n] = 59
      · have g6 : ((r3[n].toNat : Int) == 59) = true := by rw [h59]; rfl
        have g6' : (r3[n].toNat == 59) = true := by rw [h59]; rfl
        have g6'' : ((r3[n].toNat : Int) != 59) = false := by rw [bne, g6]; rfl
        have HN2 := Lib.hid (HGO.out _ _ (HEN.out.trans (rest3_t hlt h59)))
        have hex : (r3.extract (n + 1) r3.size).size < r3.size := by rw [ByteArray.size_extract]; omega
        have HEL : Hid (S ((L r3).take n) = r3.extract 0 n) := by
          unfold Hid
          rw [← L_pre, S_L]
        clear HEN HGO HBADE h59
        have hown3 := Lib.hid (own_below hO.out (bthen hb1 (bthen hb2 hb3)))
        go_wp2_with (at_builtin; go_must (refine wpList_appG rfl _ _ _ rfl w.heap.size 67 i0 _ 3 32 Tryz.underlying32 hi0 hz0 hz1 hz2 rfl (by omega) _ q.length (edCells q) rfl (World.ownsRow.alloc hown3.out _) ⟨_, 0, none⟩ 1 1 [.int .i64 (a : Int), .int .i64 (d : Int), .string (r3.extract 0 n)] rfl rfl (cells_new3 _ _ _ _ _) (by simp [Value.oneCell']) (by omega) (by omega) (by simp; omega) ?_); intro v6 w6 hown6 hg6 hb6)
        have hB6 : Below w.heap.size w w6 := (hb4.alloc (by have := hb4.size; omega) _).trans hb6
        go_roundw
        case rel =>
          refine ⟨_, q ++ [⟨(a : Int), (d : Int), (L r3).take n⟩], rfl, by omega, by simp; omega, HN2, ?_, hB6⟩
          rw [List.length_append, edCells_append]
          have e1 : edCells [⟨(a : Int), (d : Int), (L r3).take n⟩] = [.int .i64 (a : Int), .int .i64 (d : Int), .string (r3.extract 0 n)] := by
            rw [← HEL.out]; rfl
          rw [e1]; exact hown6
        case measure => simp [strSz]; omega
      · have hz : r3[n].toNat ≠ 59 := fun e => h59 (UInt8.toNat_inj.1 (e.trans (rfl : 59 = (59 : UInt8).toNat)))
        have g6 : ((r3[n].toNat : Int) == 59) = false := by rw [beq_eq_false_iff_ne]; omega
        have g6' : (r3[n].toNat == 59) = false := by rw [beq_eq_false_iff_ne]; exact hz
        have g6'' : ((r3[n].toNat : Int) != 59) = true := by rw [bne, g6]; rfl
        have HV := Lib.hid (HBADE.out (HEN.out.trans (rest3_f2 hlt h59)))
        clear HEN HGO HBADE h59 hz
        go_wp2_with fail
        go_ret2
        exact ⟨_, [], 12, rfl, HV.out, World.ownsRow_nil _ _ _ _, hb4⟩
    · have g5 : decide ((r3.size : Int) ≤ (n : Int)) = true := decide_eq_true (by omega)
      have g5' : decide (r3.size ≤ n) = true := decide_eq_true (by omega)
      have HV := Lib.hid (HBADE.out (HEN.out.trans (rest3_f1 (by omega))))
      clear HEN HGO HBADE
      go_wp2_with fail
      go_ret2
      exact ⟨_, [], 12, rfl, HV.out, World.ownsRow_nil _ _ _ _, hb4⟩
end Go.Proofs.YtmikckhihfcooaaGreatDoor
