/- The document's FrontCode. -/
import Derived.Test.YtmmamdjbbpeifaaDoorCdpC
namespace Go.Proofs.YtmmamdjbbpeifaaDoor
open Go.RowKit
theorem cloneStr_all (A : Option Addr) (n c B : Nat) (l : List (List UInt8)) (w : World) (hr : Rd w B 1 A n (strCells l)) (hB : B ≤ w.heap.size) (hn : n ≤ 1000) :
    Calls Tryd.prog 40 #[.slice A n c] w fun e w' => ∃ v, e = .returned v ∧ w'.ownsRow w.heap.size 9 1 v n (strCells l) ∧ Below w.heap.size w w' := by
  rcases Nat.eq_zero_or_pos n with rfl | h0
  · have hl : l = [] := List.eq_nil_of_length_eq_zero (by have := hr.1; simpa [strCells] using this)
    subst hl
    cases A with
    | none =>
      refine (Tryd.slices_Clone_string_nil 0 c w).mono ?_
      rintro e w' ⟨rfl, rfl⟩
      exact ⟨_, rfl, World.ownsRow_nil _ _ _ _, Below.refl _ _⟩
    | some a =>
      refine (Tryd.slices_Clone_string_zero a c w).mono ?_
      rintro e w' ⟨v, rfl, h1, _, h2⟩
      exact ⟨v, rfl, h1, h2⟩
  · exact clone_str A n c B l w hr hB hn h0
set_option maxRecDepth 100000 in
set_option maxHeartbeats 4000000 in
theorem frontCode_any (A : Option Addr) (n c B : Nat) (l : List (List UInt8)) (w : World) (hr : Rd w B 1 A n (strCells l)) (hB : B ≤ w.heap.size) (hco : Cod l) :
    Calls Tryd.prog 17 #[.slice A n c] w fun e w' => e = .returned (.bool (frontB l)) ∧ Below w.heap.size w w' := by
  have hl : l.length = n := by have := hr.1; simpa [strCells] using this
  have hlen := hco.len
  have HCL := Lib.hid (cloneStr_all A n c B l w hr hB (by omega))
  have HCO := Lib.hid hco
  have HEND : Hid (∀ m, n ≤ m + 1 → (∀ j, j < m → pfx (sAt l j) (sAt l (j + 1)) = false) → frontB l = true) := fun m hm h => adj_t HCO.out fun j hj => h j (by omega)
  clear hr
  go_enter Tryd.func17, Tryd.ntmps17
  go_wp2_with fail
  refine HCL.out.mono ?_
  rintro e w1 ⟨v, rfl, hown, hb1⟩
  rw [← hl] at hown
  have HS := Lib.hid (sortStr_own l v w w1 hown hb1 (by omega))
  clear hown
  go_wp2_with fail
  refine HS.out.mono ?_
  rintro e w2 ⟨rfl, hown2, hb2⟩
  rcases hown2.2 with ⟨rfl, h0⟩ | ⟨g, cap, cur, rfl, hbase, hg, h1, h2, h3, h4⟩
  · have HV := Lib.hid (HEND.out 0 (by omega) (fun j hj => by omega))
    go_wp2_with fail
    go_loopw [4] (fun jv wr => jv = .int .i64 1 ∧ wr = w2) (fun _ _ => 0)
    case atStart => exact ⟨rfl, rfl⟩
    case round =>
      obtain ⟨rfl, rfl⟩ := hrel
      go_wp2_with fail
      go_ret
      rw [HV.out]
      exact ⟨rfl, hb2⟩
  have hgl : g < w2.heap.size := (Array.getElem?_eq_some_iff.1 hg).1
  have HCELL : Hid (∀ k W, k < n → Below w2.heap.size w2 W → W.cell? ⟨g, k, none⟩ = some (.string (S (sAt l k)))) := fun k W hk hW => by
    rw [hW.cell (p := ⟨g, k, none⟩) hgl, World.ownsRow.cellAt hown2 k (by omega), strCells_at _ _ (by rw [sortB_len]; omega), sortB_at (by omega)]
  have HLN := Lib.hid hl
  have hn12 : n ≤ 12 := by omega
  rw [hl]
  clear h1 h2 h3 h4 hg hbase hown2 hb1 HS HCL hl
  go_wp2_with fail
  go_loopw [4] (fun jv wr => ∃ j : Nat, j ≤ n ∧ jv = .int .i64 ((j : Int) + 1) ∧ Hid (∀ k, k < j → pfx (sAt l k) (sAt l (k + 1)) = false) ∧ Below w2.heap.size w2 wr) (fun jv _ => n + 1 - (intOf jv).toNat)
  case atStart => exact ⟨0, by omega, by go_num, Lib.hid (fun k h => by omega), Below.refl _ _⟩
  case round =>
    obtain ⟨j, hj, rfl, HN, hbr⟩ := hrel
    by_cases hlt : j + 1 < n
    · have g3 : decide ((j : Int) + 1 < (n : Int)) = true := decide_eq_true (by omega)
      have c1 := HCELL.out (j + 1) wr hlt hbr
      have c0 := HCELL.out j wr (by omega) hbr
      have hjn : j < n := by omega
      obtain ⟨X, hX⟩ : ∃ X, S (sAt l (j + 1)) = X := ⟨_, rfl⟩
      obtain ⟨Y, hY⟩ : ∃ Y, S (sAt l j) = Y := ⟨_, rfl⟩
      rw [hX] at c1
      rw [hY] at c0
      have HPX : Hid (∀ W, Calls Tryd.prog 34 #[.string X, .string Y] W fun e W' => e = .returned (.bool (pfx (sAt l j) (sAt l (j + 1)))) ∧ Below W.heap.size W W') := fun W => by
        have h := Tryd.strings_HasPrefix X Y W
        rw [← hX, ← hY] at h ⊢
        exact h.mono fun e W' h => ⟨h.1, by rw [h.2]; exact Below.refl _ _⟩
      clear hX hY
      cases hp : pfx (sAt l j) (sAt l (j + 1)) with
      | true =>
        have HV := Lib.hid (adj_f (l := l) (j := j) (by rw [HLN.out]; exact hlt) hp)
        rw [hp] at HPX
        clear hp
        go_wp2_with fail
        have c1r := cell_regrown c1
        have c0r := cell_regrown c0
        refine wp_region_quiet_below (by kernel_rfl) (by kernel_rfl) ?_
        repeat (go_big_quiet_step ((go_at_call 34; exact Calls.regrown_of (HPX.out _))))
        refine wpQuiet_nil ?_
        intro w5 hb50
        have hb5 := below_of_regrown hb50
        clear hb50
        go_wp2_with fail
        go_ret
        rw [HV.out]
        exact ⟨rfl, bthen hb2 (bthen hbr hb5)⟩
      | false =>
        have HN2 : Hid (∀ k, k < j + 1 → pfx (sAt l k) (sAt l (k + 1)) = false) := fun k hk => by
          rcases Nat.lt_or_ge k j with h1 | h1
          · exact HN.out k h1
          · obtain rfl : k = j := by omega
            exact hp
        rw [hp] at HPX
        clear hp
        go_wp2_with fail
        have c1r := cell_regrown c1
        have c0r := cell_regrown c0
        refine wp_region_quiet_below (by kernel_rfl) (by kernel_rfl) ?_
        repeat (go_big_quiet_step ((go_at_call 34; exact Calls.regrown_of (HPX.out _))))
        refine wpQuiet_nil ?_
        intro w5 hb50
        have hb5 := below_of_regrown hb50
        clear hb50
        go_wp2_with fail
        go_roundw
        case rel => exact ⟨j + 1, by omega, by go_num, HN2, bthen hbr hb5⟩
        case measure => simp [intOf]; omega
    · have g3 : decide ((j : Int) + 1 < (n : Int)) = false := decide_eq_false (by omega)
      have HV := Lib.hid (HEND.out j (by omega) HN.out)
      go_wp2_with fail
      go_ret
      rw [HV.out]
      exact ⟨rfl, bthen hb2 hbr⟩
end Go.Proofs.YtmmamdjbbpeifaaDoor
