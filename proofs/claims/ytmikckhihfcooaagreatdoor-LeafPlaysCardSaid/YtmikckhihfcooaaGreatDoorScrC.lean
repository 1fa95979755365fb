/- The document's numeral. -/
import Derived.Test.YtmikckhihfcooaaGreatDoorScrC0
import Derived.Test.YtmikckhihfcooaaGreatDoorScrB
import Derived.Lib.QuietBelow
namespace Go.Proofs.YtmikckhihfcooaaGreatDoor
open Go.RowKit
theorem trimB {a T : ByteArray} (h : S (Lib.trimS (L a) digs) = T) : ((L a).all isDg = true → T.size = 0) ∧ ((L a).all isDg = false → T.size ≠ 0) := by
  constructor
  · intro h1
    rw [← h, (trim_digs _).2 h1]; rfl
  · intro h1 h2
    have h3 : Lib.trimS (L a) digs = [] := by
      rw [← h, S_size] at h2
      exact List.eq_nil_of_length_eq_zero h2
    rw [(trim_digs _).1 h3] at h1; cases h1
def NumAns (a : ByteArray) (e : Ending) : Prop := e = .returned (.tuple #[.int .i64 (((valNum (L a)).getD 0 : Nat) : Int), .bool (valNum (L a)).isSome])
theorem numAns_none {a : ByteArray} (h : valNum (L a) = none) : NumAns a (.returned (.tuple #[.int .i64 0, .bool false])) := by
  unfold NumAns; rw [h]; rfl
theorem numAns_some {a : ByteArray} {v : Nat} (h : valNum (L a) = some v) : NumAns a (.returned (.tuple #[.int .i64 (v : Int), .bool true])) := by
  unfold NumAns; rw [h]; rfl
set_option maxRecDepth 100000 in
set_option maxHeartbeats 8000000 in
theorem numeral_any (a : ByteArray) (ha : a.size ≤ 9223372036854775807) (w : World) :
    Calls Tryz.prog 55 #[.string a] w fun e w' => NumAns a e ∧ Below w.heap.size w w' := by
  have hLl : (L a).length = a.size := L_len a
  by_cases h0 : a.size = 0
  · obtain ⟨g2, g3⟩ := (emp_facts a).1 h0
    have HV := Lib.hid (numAns_none (a := a) (valNum_bad (.inl (by rw [List.eq_nil_of_length_eq_zero (hLl.trans h0)]; exact okNum_1))))
    clear hLl h0
    go_enter Tryz.func55, Tryz.ntmps55
    go_wp2_with fail
    go_ret2
    exact ⟨HV.out, (by repeat (first | exact Below.refl _ _ | assumption | refine Below.alloc ?_ (by first | exact Nat.le_refl _ | assumption | omega | (simp <;> omega)) _ | refine Below.setCell ?_ (by first | exact Nat.le_refl _ | assumption | omega | (simp <;> omega)) _ | refine Below.drew ?_ | refine below_drewN ?_ _))⟩
  obtain ⟨g2, g3⟩ := (emp_facts a).2 h0
  by_cases h3 : 3 < a.size
  · have g4 : decide ((3 : Int) < (a.size : Int)) = true := decide_eq_true (by omega)
    have g4' : decide (3 < a.size) = true := decide_eq_true h3
    have HV := Lib.hid (numAns_none (a := a) (valNum_bad (.inl (okNum_2 (by rw [hLl]; exact h3)))))
    clear hLl h0 h3
    go_enter Tryz.func55, Tryz.ntmps55
    go_wp2_with fail
    go_ret2
    exact ⟨HV.out, (by repeat (first | exact Below.refl _ _ | assumption | refine Below.alloc ?_ (by first | exact Nat.le_refl _ | assumption | omega | (simp <;> omega)) _ | refine Below.setCell ?_ (by first | exact Nat.le_refl _ | assumption | omega | (simp <;> omega)) _ | refine Below.drew ?_ | refine below_drewN ?_ _))⟩
  have g4 : decide ((3 : Int) < (a.size : Int)) = false := decide_eq_false (by omega)
  have g4' : decide (3 < a.size) = false := decide_eq_false h3
  have HTR := Lib.hid (trim_digits a (by omega))
  obtain ⟨T, hT⟩ : ∃ T, S (Lib.trimS (L a) digs) = T := ⟨_, rfl⟩
  have htz := trimB hT
  rw [hT] at HTR
  clear hT
  have hs0 : 0 < a.size := by omega
  have hgd := L_getD hs0
  cases hdg : (L a).all isDg with
  | false =>
    obtain ⟨g5, g6⟩ := (emp_facts T).2 (htz.2 hdg)
    have HV := Lib.hid (numAns_none (a := a) (valNum_bad (.inr hdg)))
    clear hLl h0 h3 htz hdg hgd
    go_enter Tryz.func55, Tryz.ntmps55
    go_wp2_with fail
    refine (HTR.out _).mono ?_
    rintro e w2 ⟨rfl, hb2⟩
    go_wp2_with fail
    go_ret2
    exact ⟨HV.out, hb2⟩
  | true =>
    obtain ⟨g5, g6⟩ := (emp_facts T).1 (htz.1 hdg)
    have HDG := Lib.hid hdg
    clear htz hdg
    by_cases h48 : a[0] = 48 ∧ 1 < a.size
    · have g7 : ((a[0].toNat : Int) == 48) = true := by rw [h48.1]; rfl
      have g7' : (a[0].toNat == 48) = true := by rw [h48.1]; rfl
      have g8 : decide ((1 : Int) < (a.size : Int)) = true := decide_eq_true (by omega)
      have g8' : decide (1 < a.size) = true := decide_eq_true (by omega)
      have HV := Lib.hid (numAns_none (a := a) (valNum_bad (.inl (okNum_3 (by rw [hgd, h48.1]) (by rw [hLl]; exact h48.2)))))
      clear hLl h0 h3 hgd h48
      go_enter Tryz.func55, Tryz.ntmps55
      go_wp2_with fail
      refine (HTR.out _).mono ?_
      rintro e w2 ⟨rfl, hb2⟩
      go_wp2_with fail
      go_ret2
      exact ⟨HV.out, hb2⟩
    · obtain ⟨v, hv⟩ := (dec_all (L a) 0).1 HDG.out
      have hok : okNum (L a) = true := okNum_4 (by omega) (by omega) (fun h => h48 ⟨by rw [← hgd]; exact h.1, by omega⟩)
      have hval : valNum (L a) = some v := by unfold valNum; rw [hok]; exact hv
      have HV := Lib.hid (numAns_some hval)
      have HAT : Hid (∀ W, Calls Tryz.prog 61 #[.string a] W fun e w' => e = .returned (.tuple #[.int .i64 (v : Int), .nilIface]) ∧ Below W.heap.size W w') := fun W => (Tryz.strconv_Atoi a v (by omega) (by have := atoi_dig HDG.out (by omega) hv; exact this) W).mono (by
        rintro e w' ⟨rfl, t, rfl⟩
        exact ⟨rfl, bytesWorld_below _ _ _⟩)
      have g9 : ((a[0].toNat : Int) == 48) = true → decide ((1 : Int) < (a.size : Int)) = false ∧ decide (1 < a.size) = false := fun h => by
        have : ¬ 1 < a.size := fun h1 => h48 ⟨UInt8.toNat_inj.1 (by have := eq_of_beq h; exact Int.ofNat.inj this), h1⟩
        exact ⟨decide_eq_false (by omega), decide_eq_false this⟩
      clear hLl h0 h3 hgd h48 hv hval hok
      cases g7 : ((a[0].toNat : Int) == 48) with
      | true =>
        obtain ⟨g8, g8'⟩ := g9 g7
        clear g9
        go_enter Tryz.func55, Tryz.ntmps55
        go_wp2_with fail
        refine (HTR.out _).mono ?_
        rintro e w2 ⟨rfl, hb2⟩
        go_wp2_with fail
        refine (HAT.out _).mono ?_
        rintro e w3 ⟨rfl, hb3⟩
        go_wp2_with fail
        go_ret2
        exact ⟨HV.out, bthen hb2 hb3⟩
      | false =>
        clear g9
        go_enter Tryz.func55, Tryz.ntmps55
        go_wp2_with fail
        refine (HTR.out _).mono ?_
        rintro e w2 ⟨rfl, hb2⟩
        go_wp2_with fail
        refine (HAT.out _).mono ?_
        rintro e w3 ⟨rfl, hb3⟩
        go_wp2_with fail
        go_ret2
        exact ⟨HV.out, bthen hb2 hb3⟩
end Go.Proofs.YtmikckhihfcooaaGreatDoor
