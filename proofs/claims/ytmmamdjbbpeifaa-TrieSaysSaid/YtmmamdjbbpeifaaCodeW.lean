/- code.Sum, the reference's LensErr, code.bits. -/
import Derived.Test.YtmmamdjbbpeifaaCode0
import Derived.Test.YtmmamdjbbpeifaaEq
import Derived.Test.YtmmamdjbbpeifaaSched
import Derived.Test.YtmmamdjbbpeifaaOwn2
namespace Go.Proofs.Ytmmamdjbbpeifaa
open Go.RowKit
/-- The size of a word's share. -/
def share (n : Int) : Int := 2 ^ (12 - n).toNat
def lensGo : Int → List Int → Int × Int
  | s, [] => (s, 0)
  | s, n :: r => if n < 1 ∨ 12 < n then (0, 1) else lensGo (s + share n) r
def lensErr (l : List Int) : Int × Int := if 12 < l.length then (0, 2) else lensGo 0 l
theorem twelve {p : Int → Prop} {n : Int} (h0 : 1 ≤ n) (h1 : n ≤ 12) (h : ∀ k : Fin 12, p ((k.val : Int) + 1)) : p n := by
  have := h ⟨(n - 1).toNat, by omega⟩
  rwa [show (((n - 1).toNat : Int) + 1) = n by omega] at this
theorem share_bd (n : Int) (h0 : 1 ≤ n) (h1 : n ≤ 12) : 1 ≤ share n ∧ share n ≤ 2048 := twelve (p := fun n => 1 ≤ share n ∧ share n ≤ 2048) h0 h1 (by decide)
theorem share_shr (n : Int) (h0 : 1 ≤ n) (h1 : n ≤ 12) : (4096 : Int) / 2 ^ n.toNat = share n := twelve (p := fun n => (4096 : Int) / 2 ^ n.toNat = share n) h0 h1 (by decide)
theorem int_cell {w : World} {B n : Nat} {A : Option Addr} {l : List Int} (h : Rd w B 1 A n (ints l)) {k : Nat} (hk : k < n) : ∃ ad, ∃ hl : k < l.length, A = some ad ∧ ad.block < B ∧ w.cell? (ad.add k) = some (.int .i64 l[k]) := by
  obtain ⟨ad, u, hA, hb, hu, hc⟩ := h.at_ hk
  obtain ⟨x, hx, rfl⟩ := ints_at hu
  obtain ⟨hl, rfl⟩ := List.getElem?_eq_some_iff.1 hx
  exact ⟨ad, hl, hA, hb, hc⟩
theorem ints_len {w : World} {B n : Nat} {A : Option Addr} {l : List Int} (h : Rd w B 1 A n (ints l)) : l.length = n := by
  have := h.1; simpa [ints] using this
set_option maxRecDepth 100000 in
set_option maxHeartbeats 1000000 in
theorem coSum_any (l : List Int) (A : Option Addr) (m c B : Nat) (w : World) (hr : Rd w B 1 A m (ints l)) (hm : m ≤ 9223372036854775807) :
    Calls Try.prog 62 #[.slice A m c] w fun e w' => e = .returned (.tuple #[.int .i64 (lensErr l).1, .int .i64 (lensErr l).2]) ∧ Below w.heap.size w w' := by
  have hlen := ints_len hr
  have HR := Lib.hid hr; clear hr
  have HL := Lib.hid hlen; clear hlen
  by_cases h12 : 12 < m
  · have HE : Hid (lensErr l = (0, 2)) := by unfold Hid lensErr; rw [if_pos (by rw [HL.out]; exact h12)]
    go_enter Try.func62, Try.ntmps62
    go_wp2_with fail
    go_ret2
    exact ⟨by rw [HE.out]; rfl, (by repeat (first | exact Below.refl _ _ | assumption | refine Below.alloc ?_ (by first | exact Nat.le_refl _ | assumption | omega | (simp <;> omega)) _ | refine Below.setCell ?_ (by first | exact Nat.le_refl _ | assumption | omega | (simp <;> omega)) _ | refine Below.drew ?_ | refine below_drewN ?_ _))⟩
  have HE : Hid (lensErr l = lensGo 0 l) := by unfold Hid lensErr; rw [if_neg (by rw [HL.out]; exact h12)]
  go_enter Try.func62, Try.ntmps62
  go_wp2_with fail
  go_loop [4, 12] (fun s i => ∃ (k : Nat) (x : Int), k ≤ m ∧ lensGo 0 l = lensGo x (l.drop k) ∧ 0 ≤ x ∧ x ≤ 2048 * k ∧ i = .int .i64 k ∧ s = .int .i64 x) (fun _ i => m - (intOf i).toNat)
  case atStart => exact ⟨0, 0, Nat.zero_le _, rfl, Int.le_refl _, by omega, rfl, rfl⟩
  case round =>
    obtain ⟨k, x, hk, hx, hx0, hx1, rfl, rfl⟩ := hrel
    have HX := Lib.hid hx; clear hx
    by_cases hlt : k < m
    · obtain ⟨ad, hl, rfl, hab, c0⟩ := int_cell HR.out hlt
      have HD : Hid (lensGo 0 l = if l[k] < 1 ∨ 12 < l[k] then (0, 1) else lensGo (x + share l[k]) (l.drop (k + 1))) := by
        unfold Hid; rw [HX.out, List.drop_eq_getElem_cons hl, lensGo]
      generalize l[k] = n at *
      clear HX
      have HSH : Hid (1 ≤ n → n ≤ 12 → 1 ≤ share n ∧ share n ≤ 2048) := share_bd n
      go_wp2_with fail
      all_goals first
        | (go_ret2
           refine ⟨?_, (by repeat (first | exact Below.refl _ _ | assumption | refine Below.alloc ?_ (by first | exact Nat.le_refl _ | assumption | omega | (simp <;> omega)) _ | refine Below.setCell ?_ (by first | exact Nat.le_refl _ | assumption | omega | (simp <;> omega)) _ | refine Below.drew ?_ | refine below_drewN ?_ _))⟩
           go_light
           rw [HE.out, HD.out, if_pos (by omega)]; rfl)
        | (go_round
           case rel =>
             go_light
             have hs := HSH.out (by omega) (by omega)
             refine ⟨k + 1, x + share n, by omega, ?_, by omega, by omega, by go_num, ?_⟩
             · rw [HD.out, if_neg (by omega)]
             · change Value.int IntKind.i64 (wrap64 (x + wrap64 (share n))) = _
               rw [IntWalk.wrap64_in (share n) ⟨by omega, by omega⟩, IntWalk.wrap64_in _ ⟨by omega, by omega⟩]
           case measure => simp [intOf]; omega)
    · obtain rfl : k = m := by omega
      have HF : Hid (lensErr l = (x, 0)) := by unfold Hid; rw [HE.out, HX.out, List.drop_of_length_le (by rw [HL.out]; exact Nat.le_refl _), lensGo]
      go_wp2_with fail
      go_ret2
      exact ⟨by rw [HF.out]; rfl, (by repeat (first | exact Below.refl _ _ | assumption | refine Below.alloc ?_ (by first | exact Nat.le_refl _ | assumption | omega | (simp <;> omega)) _ | refine Below.setCell ?_ (by first | exact Nat.le_refl _ | assumption | omega | (simp <;> omega)) _ | refine Below.drew ?_ | refine below_drewN ?_ _))⟩
set_option maxRecDepth 100000 in
set_option maxHeartbeats 1000000 in
theorem coLens_any (l : List Int) (A : Option Addr) (m c B : Nat) (w : World) (hr : Rd w B 1 A m (ints l)) (hm : m ≤ 9223372036854775807) :
    Calls Try.prog 36 #[.slice A m c] w fun e w' => e = .returned (.tuple #[.int .i64 (lensErr l).1, .int .i64 (lensErr l).2]) ∧ Below w.heap.size w w' := by
  have hlen := ints_len hr
  have HR := Lib.hid hr; clear hr
  have HL := Lib.hid hlen; clear hlen
  by_cases h12 : 12 < m
  · have HE : Hid (lensErr l = (0, 2)) := by unfold Hid lensErr; rw [if_pos (by rw [HL.out]; exact h12)]
    go_enter Try.func36, Try.ntmps36
    go_wp2_with fail
    go_ret2
    exact ⟨by rw [HE.out]; rfl, (by repeat (first | exact Below.refl _ _ | assumption | refine Below.alloc ?_ (by first | exact Nat.le_refl _ | assumption | omega | (simp <;> omega)) _ | refine Below.setCell ?_ (by first | exact Nat.le_refl _ | assumption | omega | (simp <;> omega)) _ | refine Below.drew ?_ | refine below_drewN ?_ _))⟩
  have HE : Hid (lensErr l = lensGo 0 l) := by unfold Hid lensErr; rw [if_neg (by rw [HL.out]; exact h12)]
  go_enter Try.func36, Try.ntmps36
  go_wp2_with fail
  go_loop [4, 12] (fun s i => ∃ (k : Nat) (x : Int), k ≤ m ∧ lensGo 0 l = lensGo x (l.drop k) ∧ 0 ≤ x ∧ x ≤ 2048 * k ∧ i = .int .i64 k ∧ s = .int .i64 x) (fun _ i => m - (intOf i).toNat)
  case atStart => exact ⟨0, 0, Nat.zero_le _, rfl, Int.le_refl _, by omega, rfl, rfl⟩
  case round =>
    obtain ⟨k, x, hk, hx, hx0, hx1, rfl, rfl⟩ := hrel
    have HX := Lib.hid hx; clear hx
    by_cases hlt : k < m
    · obtain ⟨ad, hl, rfl, hab, c0⟩ := int_cell HR.out hlt
      have HD : Hid (lensGo 0 l = if l[k] < 1 ∨ 12 < l[k] then (0, 1) else lensGo (x + share l[k]) (l.drop (k + 1))) := by
        unfold Hid; rw [HX.out, List.drop_eq_getElem_cons hl, lensGo]
      generalize l[k] = n at *
      clear HX
      have HSH : Hid (1 ≤ n → n ≤ 12 → 1 ≤ share n ∧ share n ≤ 2048) := share_bd n
      have HSR : Hid (1 ≤ n → n ≤ 12 → (4096 : Int) / 2 ^ n.toNat = share n) := share_shr n
      go_wp2_with fail
      all_goals first
        | (go_ret2
           refine ⟨?_, (by repeat (first | exact Below.refl _ _ | assumption | refine Below.alloc ?_ (by first | exact Nat.le_refl _ | assumption | omega | (simp <;> omega)) _ | refine Below.setCell ?_ (by first | exact Nat.le_refl _ | assumption | omega | (simp <;> omega)) _ | refine Below.drew ?_ | refine below_drewN ?_ _))⟩
           go_light
           rw [HE.out, HD.out, if_pos (by omega)]; rfl)
        | (go_round
           case rel =>
             go_light
             have hs := HSH.out (by omega) (by omega)
             refine ⟨k + 1, x + share n, by omega, ?_, by omega, by omega, by go_num, ?_⟩
             · rw [HD.out, if_neg (by omega)]
             · rw [HSR.out (by omega) (by omega)]
               rw [IntWalk.wrap64_in _ ⟨by omega, by omega⟩]
           case measure => simp [intOf]; omega)
    · obtain rfl : k = m := by omega
      have HF : Hid (lensErr l = (x, 0)) := by unfold Hid; rw [HE.out, HX.out, List.drop_of_length_le (by rw [HL.out]; exact Nat.le_refl _), lensGo]
      go_wp2_with fail
      go_ret2
      exact ⟨by rw [HF.out]; rfl, (by repeat (first | exact Below.refl _ _ | assumption | refine Below.alloc ?_ (by first | exact Nat.le_refl _ | assumption | omega | (simp <;> omega)) _ | refine Below.setCell ?_ (by first | exact Nat.le_refl _ | assumption | omega | (simp <;> omega)) _ | refine Below.drew ?_ | refine below_drewN ?_ _))⟩
end Go.Proofs.Ytmmamdjbbpeifaa
