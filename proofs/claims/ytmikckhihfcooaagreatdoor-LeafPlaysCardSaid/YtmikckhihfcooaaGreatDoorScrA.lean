/- script.Check and the document's ScriptErr. -/
import Derived.Test.YtmikckhihfcooaaGreatDoorScr1
import Derived.Test.YtmikckhihfcooaaGreatDoorEditW
namespace Go.Proofs.YtmikckhihfcooaaGreatDoor
open Go.RowKit
theorem scr_bad {l : List Ed} {k : Nat} (h20 : l.length ≤ 20) (hk : k < l.length) (h : ∀ i, i < k → ∀ x, l[i]? = some x → scrOne x = 0) {c : Int} (h1 : scrOne l[k] = c) (hc : c ≠ 0) : scrErr l = c := by
  unfold scrErr
  rw [if_neg (by omega), scrGo_take h, List.drop_eq_getElem_cons hk, scrGo, if_neg (by rw [h1]; exact hc), h1]
theorem scr_next {l : List Ed} {k : Nat} (hk : k < l.length) (h : ∀ i, i < k → ∀ x, l[i]? = some x → scrOne x = 0) (h0 : scrOne l[k] = 0) : ∀ i, i < k + 1 → ∀ x, l[i]? = some x → scrOne x = 0 := fun i hi x hx => by
  rcases Nat.lt_or_ge i k with h1 | h1
  · exact h i h1 x hx
  · obtain rfl : i = k := by omega
    rw [List.getElem?_eq_getElem hk] at hx
    cases hx; exact h0
theorem scr_end {l : List Ed} {k : Nat} (h20 : l.length ≤ 20) (hk : l.length ≤ k) (h : ∀ i, i < k → ∀ x, l[i]? = some x → scrOne x = 0) : scrErr l = 0 := by
  unfold scrErr
  rw [if_neg (by omega), scrGo_take h, List.drop_eq_nil_of_le hk]; rfl
set_option maxRecDepth 100000 in
set_option maxHeartbeats 4000000 in
theorem scrCheck_any (l : List Ed) (A : Option Addr) (m c B : Nat) (w : World) (hr : Rd w B 3 A m (edCells l)) (hB : B ≤ w.heap.size) (hm : m ≤ 9223372036854775807) :
    Calls Tryz.prog 36 #[.slice A m c] w fun e w' => e = .returned (.int .i64 (scrErr l)) ∧ Below w.heap.size w w' := by
  have hlen := Rd.rec_len ed_len (by omega) hr
  by_cases h20 : 20 < m
  · have HE : Hid (scrErr l = 2) := by unfold Hid scrErr; rw [if_pos (by omega)]
    clear hr
    go_enter Tryz.func36, Tryz.ntmps36
    go_wp2
    go_ret
    exact ⟨ret_int HE.out.symm, Below.refl _ _⟩
  have HR := Lib.hid hr; clear hr
  have HL := Lib.hid hlen; clear hlen
  go_enter Tryz.func36, Tryz.ntmps36
  go_wp2
  go_loopw [10] (fun i wr => ∃ k : Nat, k ≤ m ∧ i = .int .i64 k ∧ Hid (∀ i, i < k → ∀ x, l[i]? = some x → scrOne x = 0) ∧ Below w.heap.size w wr)
    (fun i _ => m - (intOf i).toNat)
  case atStart => exact ⟨0, Nat.zero_le _, rfl, Lib.hid (fun i hi => by omega), Below.refl _ _⟩
  case round =>
    obtain ⟨k, hk, rfl, HN, hb⟩ := hrel
    have hbs := hb.size
    by_cases hlt : k < m
    · obtain ⟨ad, hl, rfl, hab, c0, c1, c2⟩ := (HR.out.below (hb.mono hB)).at_ed hlt
      have HSt : Hid (scrOne l[k] = 0 → ∀ i, i < k + 1 → ∀ x, l[i]? = some x → scrOne x = 0) := scr_next hl HN.out
      have HBd : Hid (∀ c, scrOne l[k] = c → c ≠ 0 → scrErr l = c) := fun c => scr_bad (by rw [HL.out]; omega) hl HN.out
      have hz : (S l[k].ins).size = l[k].ins.length := S_size _
      have HZ := Lib.hid hz; clear hz HN
      generalize l[k] = x at *
      obtain ⟨xa, xd, xi⟩ := x
      simp only at c0 c1 c2 HSt HBd HZ
      skip
      go_wp2
      all_goals first
        | (go_ret
           refine ⟨ret_int (HBd.out _ ?_ (by decide)).symm, (by repeat (first | exact Below.refl _ _ | assumption | refine Below.alloc ?_ (by first | exact Nat.le_refl _ | assumption | omega | (simp <;> omega)) _ | refine Below.setCell ?_ (by first | exact Nat.le_refl _ | assumption | omega | (simp <;> omega)) _ | refine Below.drew ?_ | refine below_drewN ?_ _))⟩
           go_light
           have hz := HZ.out
           clear HBd HSt HZ
           unfold scrOne
           grind)
        | (go_roundw
           case rel =>
             go_light
             have hz := HZ.out
             have h0 : scrOne ⟨xa, xd, xi⟩ = 0 := by
               clear HBd HSt HZ
               unfold scrOne
               grind
             exact ⟨k + 1, by omega, by go_num, HSt.out h0, (by repeat (first | exact Below.refl _ _ | assumption | refine Below.alloc ?_ (by first | exact Nat.le_refl _ | assumption | omega | (simp <;> omega)) _ | refine Below.setCell ?_ (by first | exact Nat.le_refl _ | assumption | omega | (simp <;> omega)) _ | refine Below.drew ?_ | refine below_drewN ?_ _))⟩
           case measure => simp [intOf]; omega)
    · have HF := Lib.hid (scr_end (l := l) (k := k) (by rw [HL.out]; omega) (by rw [HL.out]; omega) HN.out)
      go_wp2
      all_goals go_ret
      all_goals exact ⟨ret_int HF.out.symm, hb⟩
set_option maxRecDepth 100000 in
set_option maxHeartbeats 4000000 in
theorem scrErrR_any (l : List Ed) (A : Option Addr) (m c B : Nat) (w : World) (hr : Rd w B 3 A m (edCells l)) (hB : B ≤ w.heap.size) (hm : m ≤ 9223372036854775807) :
    Calls Tryz.prog 56 #[.slice A m c] w fun e w' => e = .returned (.int .i64 (scrErr l)) ∧ Below w.heap.size w w' := by
  have hlen := Rd.rec_len ed_len (by omega) hr
  by_cases h20 : 20 < m
  · have HE : Hid (scrErr l = 2) := by unfold Hid scrErr; rw [if_pos (by omega)]
    clear hr
    go_enter Tryz.func56, Tryz.ntmps56
    go_wp2
    go_ret
    exact ⟨ret_int HE.out.symm, Below.refl _ _⟩
  have HR := Lib.hid hr; clear hr
  have HL := Lib.hid hlen; clear hlen
  go_enter Tryz.func56, Tryz.ntmps56
  go_wp2
  go_loopw [10] (fun i wr => ∃ k : Nat, k ≤ m ∧ i = .int .i64 k ∧ Hid (∀ i, i < k → ∀ x, l[i]? = some x → scrOne x = 0) ∧ Below w.heap.size w wr)
    (fun i _ => m - (intOf i).toNat)
  case atStart => exact ⟨0, Nat.zero_le _, rfl, Lib.hid (fun i hi => by omega), Below.refl _ _⟩
  case round =>
    obtain ⟨k, hk, rfl, HN, hb⟩ := hrel
    have hbs := hb.size
    by_cases hlt : k < m
    · obtain ⟨ad, hl, rfl, hab, c0, c1, c2⟩ := (HR.out.below (hb.mono hB)).at_ed hlt
      have HSt : Hid (scrOne l[k] = 0 → ∀ i, i < k + 1 → ∀ x, l[i]? = some x → scrOne x = 0) := scr_next hl HN.out
      have HBd : Hid (∀ c, scrOne l[k] = c → c ≠ 0 → scrErr l = c) := fun c => scr_bad (by rw [HL.out]; omega) hl HN.out
      have hz : (S l[k].ins).size = l[k].ins.length := S_size _
      have HZ := Lib.hid hz; clear hz HN
      generalize l[k] = x at *
      obtain ⟨xa, xd, xi⟩ := x
      simp only at c0 c1 c2 HSt HBd HZ
      skip
      go_wp2
      all_goals first
        | (go_ret
           refine ⟨ret_int (HBd.out _ ?_ (by decide)).symm, (by repeat (first | exact Below.refl _ _ | assumption | refine Below.alloc ?_ (by first | exact Nat.le_refl _ | assumption | omega | (simp <;> omega)) _ | refine Below.setCell ?_ (by first | exact Nat.le_refl _ | assumption | omega | (simp <;> omega)) _ | refine Below.drew ?_ | refine below_drewN ?_ _))⟩
           go_light
           have hz := HZ.out
           clear HBd HSt HZ
           unfold scrOne
           grind)
        | (go_roundw
           case rel =>
             go_light
             have hz := HZ.out
             have h0 : scrOne ⟨xa, xd, xi⟩ = 0 := by
               clear HBd HSt HZ
               unfold scrOne
               grind
             exact ⟨k + 1, by omega, by go_num, HSt.out h0, (by repeat (first | exact Below.refl _ _ | assumption | refine Below.alloc ?_ (by first | exact Nat.le_refl _ | assumption | omega | (simp <;> omega)) _ | refine Below.setCell ?_ (by first | exact Nat.le_refl _ | assumption | omega | (simp <;> omega)) _ | refine Below.drew ?_ | refine below_drewN ?_ _))⟩
           case measure => simp [intOf]; omega)
    · have HF := Lib.hid (scr_end (l := l) (k := k) (by rw [HL.out]; omega) (by rw [HL.out]; omega) HN.out)
      go_wp2
      all_goals go_ret
      all_goals exact ⟨ret_int HF.out.symm, hb⟩
end Go.Proofs.YtmikckhihfcooaaGreatDoor
