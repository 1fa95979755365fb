/- The reference's FarOf. -/
import Derived.Test.YthnedhfjochfnaaTab
import Derived.Test.YthnedhfjochfnaaDist0
import Derived.BigRegion
namespace Go.Proofs.Ythnedhfjochfnaa
open Go.RowKit
theorem getD_set (l : List Int) (k j : Nat) (v : Int) (h : k < l.length) : (l.set k v).getD j 0 = if j = k then v else l.getD j 0 := by
  rw [List.getD_eq_getElem?_getD, List.getD_eq_getElem?_getD, List.getElem?_set]
  by_cases hj : j = k
  · subst hj; simp [h]
  · have : ¬ k = j := fun e => hj e.symm
    simp [hj, this]
theorem drop_byte (s : ByteArray) (k : Nat) (h : k < s.size) : (L s).drop k = s[k] :: (L s).drop (k + 1) := by
  rw [List.drop_eq_getElem_cons (by rw [L_len]; exact h), getB s k h, List.getD_eq_getElem?_getD, List.getElem?_eq_getElem (by rw [L_len]; exact h)]; rfl
/-- Where the inner loop stands. -/
structure FarIn (s t : ByteArray) (w wr : World) (gT : Nat) (G : Nat → Nat) (i k : Nat) (R : Nat → List Int) : Prop where
  tab : Tab wr w.heap.size gT (s.size + 1) (t.size + 1) (fun j => i ≤ j ∧ j ≤ s.size) G R
  old : ∀ j, i + 1 ≤ j → j ≤ s.size → ∀ k, k ≤ t.size → (R j).getD k 0 = (lev ((L s).drop j) ((L t).drop k) : Nat)
  new : ∀ k', k ≤ k' → k' ≤ t.size → (R i).getD k' 0 = (lev ((L s).drop i) ((L t).drop k') : Nat)
theorem FarIn.step {s t : ByteArray} {w wr : World} {gT : Nat} {G : Nat → Nat} {i k : Nat} {R : Nat → List Int} (h : FarIn s t w wr gT G i (k + 1) R) (hi : i ≤ s.size) (hk : k ≤ t.size) {v : Int} (hv : v = (lev ((L s).drop i) ((L t).drop k) : Nat)) :
    FarIn s t w (wr.setCell ⟨G i, k, none⟩ (.int .i64 v)) gT G i k (fun j => if j = i then (R i).set k v else R j) := by
  have hl := (h.tab.row i ⟨Nat.le_refl _, hi⟩).len
  refine ⟨h.tab.set_ ⟨Nat.le_refl _, hi⟩ k v, fun j h1 h2 q hq => ?_, fun q h1 h2 => ?_⟩
  · simp only [show ¬ j = i by omega, if_false]; exact h.old j h1 h2 q hq
  · simp only [if_true]
    rw [getD_set _ _ _ _ (by omega)]
    by_cases hq : q = k
    · subst hq; rw [if_pos rfl]; exact hv
    · rw [if_neg hq]; exact h.new q (by omega) h2
theorem FarIn.drewN {s t : ByteArray} {w wr : World} {gT : Nat} {G : Nat → Nat} {i k : Nat} {R : Nat → List Int} (h : FarIn s t w wr gT G i k R) (n : Nat) : FarIn s t w (wr.drewN n) gT G i k R :=
  ⟨h.tab.drewN n, h.old, h.new⟩
theorem lev_drop_left (s t : ByteArray) (k : Nat) (hk : k ≤ t.size) : ((t.size : Int) - (k : Int)) = (lev ((L s).drop s.size) ((L t).drop k) : Nat) := by
  rw [List.drop_of_length_le (by rw [L_len]; exact Nat.le_refl _), lev_nil_left, List.length_drop, L_len]; omega
theorem lev_drop_right (s t : ByteArray) (i : Nat) (hi : i ≤ s.size) : ((s.size : Int) - (i : Int)) = (lev ((L s).drop i) ((L t).drop t.size) : Nat) := by
  rw [List.drop_of_length_le (l := L t) (by rw [L_len]; exact Nat.le_refl _), lev_nil_right, List.length_drop, L_len]; omega
set_option maxRecDepth 100000 in
set_option maxHeartbeats 8000000 in
theorem farOf_any (s t : ByteArray) (hs : s.size ≤ 200) (ht : t.size ≤ 200) (w : World) :
    Calls Try.prog 57 #[.string s, .string t] w fun e w' => e = .returned (.int .i64 (lev (L s) (L t) : Nat)) ∧ Below w.heap.size w w' := by
  obtain ⟨i0, hi0, hz0, hz1, hz2⟩ := info_parts info_int
  obtain ⟨j0, hj0, jz0, jz1, jz2⟩ := info_parts info_row
  go_enter Try.func57, Try.ntmps57
  go_wp2_with (at_make; go_must (refine wpList_make_full _ rfl _ _ _ rfl w.heap.size 22 j0 _ 1 Try.underlying126 hj0 jz0 jz1 .i64 .i64 ((s.size : Int) + 1) ((s.size : Int) + 1) (s.size + 1) rfl rfl (by omega) (by omega) (by rw [jz2]; omega) (by unfold maxLen; omega) (Nat.le_refl _) ?_); intro w2 hown2 hg2)
  have hb2 : Below w.heap.size w w2 := (Below.refl _ _).grown hg2 (Nat.le_refl _) (fun _ h => by cases h)
  clear hg2
  go_loopw [6] (fun i wr => ∃ (i' : Nat) (G : Nat → Nat) (R : Nat → List Int), i' ≤ s.size + 1 ∧ i = .int .i64 ((i' : Int) - 1) ∧ Tab wr w.heap.size w.heap.size (s.size + 1) (t.size + 1) (fun j => i' ≤ j ∧ j ≤ s.size) G R ∧
      (∀ j, i' ≤ j → j ≤ s.size → ∀ k, k ≤ t.size → (R j).getD k 0 = (lev ((L s).drop j) ((L t).drop k) : Nat)) ∧ Below w.heap.size w wr) (fun i _ => (intOf i + 1).toNat)
  case atStart =>
    refine ⟨s.size + 1, fun _ => 0, fun _ => [], Nat.le_refl _, by go_num, ?_, fun j h1 h2 => by omega, hb2⟩
    have h0 := Tab.start hown2 (t.size + 1) (fun _ => 0) (fun _ => [])
    exact ⟨h0.top.imp fun xs h => ⟨h.1, fun i hi => by omega⟩, fun i hi => by omega, fun i hi => by omega, fun i j hi => by omega⟩
  case round =>
    obtain ⟨i, G, R, hi, rfl, hT, hR, hb⟩ := hrel
    obtain ⟨wo, hwo⟩ : ∃ wo : World, wo = wr := ⟨_, rfl⟩
    subst hwo
    have HT := Lib.hid hT
    have HRv := Lib.hid hR
    clear hR
    have hbs := hb.size
    have hgl := hT.gT_lt.2
    by_cases hi0' : 0 < i
    · obtain ⟨i, rfl⟩ : ∃ j, i = j + 1 := ⟨i - 1, by omega⟩
      have e0 : (((i + 1 : Nat) : Int) - 1) = (i : Int) := by omega
      rw [e0]
      obtain ⟨u0, cs0, cf0⟩ := hT.slot (i := i) (by omega)
      clear hT
      go_wp2_with (at_make; go_must (refine wpList_make_full _ rfl _ _ _ rfl w.heap.size 3 i0 _ 1 Try.underlying22 hi0 hz0 hz1 .i64 .i64 ((t.size : Int) + 1) ((t.size : Int) + 1) (t.size + 1) rfl rfl (by omega) (by omega) (by rw [hz2]; omega) (by unfold maxLen; omega) hbs ?_); intro w3 hown3 hg3; have hcs3 := (hg3.cell cs0 (by simp)); have hcf3 := (hg3.frozen_far ⟨w.heap.size, i, none⟩ hgl (by simp)).trans cf0)
      have hb3 : Below wo.heap.size wo w3 := (Below.refl _ _).grown hg3 (Nat.le_refl _) (fun _ h => by cases h)
      have hrow3 : ArrI w3 w.heap.size wo.heap.size (t.size + 1) (List.replicate (t.size + 1) 0) := by
        rw [made_ints] at hown3; exact hown3
      have HF0 : Hid (FarIn s t w (w3.setCell ⟨w.heap.size, i, none⟩ (.slice (some ⟨wo.heap.size, 0, none⟩) (t.size + 1) (t.size + 1))) w.heap.size (fun j => if j = i then wo.heap.size else G j) i (t.size + 1) (fun j => if j = i then List.replicate (t.size + 1) 0 else R j)) := by
        refine ⟨((HT.out.below hb3).add (i := i) (fun h => by omega) (by omega) hrow3 (fun j hj => by have := (HT.out.row j hj).lt.2; omega)).congr (fun j => by omega), fun j h1 h2 q hq => ?_, fun q h1 h2 => by omega⟩
        simp only [show ¬ j = i by omega, if_false]; exact HRv.out j h1 h2 q hq
      have hB4 : Below w.heap.size w (w3.setCell ⟨w.heap.size, i, none⟩ (.slice (some ⟨wo.heap.size, 0, none⟩) (t.size + 1) (t.size + 1))) := Below.setCell (bthen hb hb3) (Nat.le_refl _) _
      clear hown3 hrow3 hg3 hb3 hcs3 hcf3 cs0 cf0
      generalize (fun j => if j = i then wo.heap.size else G j) = G' at *
      generalize (fun j => if j = i then List.replicate (t.size + 1) 0 else R j) = R0 at *
      generalize (w3.setCell ⟨w.heap.size, i, none⟩ (.slice (some ⟨wo.heap.size, 0, none⟩) (t.size + 1) (t.size + 1))) = w4 at *
      go_loopw [7] (fun k wr => ∃ (k' : Nat) (R' : Nat → List Int), k' ≤ t.size + 1 ∧ k = .int .i64 ((k' : Int) - 1) ∧ FarIn s t w wr w.heap.size G' i k' R' ∧ Below w.heap.size w wr) (fun k _ => (intOf k + 1).toNat)
      case atStart => exact ⟨t.size + 1, R0, Nat.le_refl _, by go_num, HF0.out, hB4⟩
      case round =>
        clear HF0 hB4 hb hbs hgl
        obtain ⟨k, R', hk, rfl, hF, hb⟩ := hrel
        have HF := Lib.hid hF
        have hbs := hb.size
        by_cases hk0 : 0 < k
        · obtain ⟨k, rfl⟩ : ∃ j, k = j + 1 := ⟨k - 1, by omega⟩
          have e1 : (((k + 1 : Nat) : Int) - 1) = (k : Int) := by omega
          rw [e1]
          have pI := hF.tab.ptr (i := i) ⟨Nat.le_refl _, by omega⟩
          have rI := (hF.tab.row i ⟨Nat.le_refl _, by omega⟩).at_ (k := k) (by omega)
          have fI := (hF.tab.row i ⟨Nat.le_refl _, by omega⟩).free k
          have gI := (hF.tab.row i ⟨Nat.le_refl _, by omega⟩).lt
          obtain ⟨gI0, gI1⟩ := gI
          have HS : Hid (∀ v : Int, v = (lev ((L s).drop i) ((L t).drop k) : Nat) → FarIn s t w (wr.setCell ⟨G' i, k, none⟩ (.int .i64 v)) w.heap.size G' i k (fun j => if j = i then (R' i).set k v else R' j)) := fun v hv => HF.out.step (by omega) (by omega) hv
          have HD : Hid (∀ (n : Nat) (v : Int), v = (lev ((L s).drop i) ((L t).drop k) : Nat) → FarIn s t w ((wr.drewN n).setCell ⟨G' i, k, none⟩ (.int .i64 v)) w.heap.size G' i k (fun j => if j = i then (R' i).set k v else R' j)) := fun n v hv => (HF.out.drewN n).step (by omega) (by omega) hv
          generalize (R' i).getD k 0 = old at *
          by_cases his : i = s.size
          · have HV := Lib.hid (lev_drop_left s t k (by omega))
            have g1 : ((i : Int) == (s.size : Int)) = true := by rw [his]; simp
            have HIS := Lib.hid his
            clear his hF
            go_wp2_with fail
            go_roundw
            case rel => exact ⟨k, _, by omega, by go_num, HS.out _ (by rw [HV.out, HIS.out]), Below.setCell hb gI0 _⟩
            case measure => simp [intOf]
          · have g1 : ((i : Int) == (s.size : Int)) = false := by rw [beq_eq_false_iff_ne]; omega
            have hil : i < s.size := by omega
            by_cases hkt : k = t.size
            · have HV := Lib.hid (lev_drop_right s t i (by omega))
              have g2 : ((k : Int) == (t.size : Int)) = true := by rw [hkt]; simp
              have HKT := Lib.hid hkt
              clear hkt hF
              go_wp2_with fail
              go_roundw
              case rel => exact ⟨k, _, by omega, by go_num, HS.out _ (by rw [HV.out, HKT.out]), Below.setCell hb gI0 _⟩
              case measure => simp [intOf]
            · have g2 : ((k : Int) == (t.size : Int)) = false := by rw [beq_eq_false_iff_ne]; omega
              have hkl : k < t.size := by omega
              have p1 := hF.tab.ptr (i := i + 1) ⟨by omega, by omega⟩
              have r10 := (hF.tab.row (i + 1) ⟨by omega, by omega⟩).at_ (k := k) (by omega)
              have r11 := (hF.tab.row (i + 1) ⟨by omega, by omega⟩).at_ (k := k + 1) (by omega)
              have r01 := (hF.tab.row i ⟨Nat.le_refl _, by omega⟩).at_ (k := k + 1) (by omega)
              rw [hF.old (i + 1) (Nat.le_refl _) (by omega) k (by omega)] at r10
              rw [hF.old (i + 1) (Nat.le_refl _) (by omega) (k + 1) (by omega)] at r11
              rw [hF.new (k + 1) (Nat.le_refl _) (by omega)] at r01
              have HLV : Hid (lev ((L s).drop i) ((L t).drop k) = if s[i] = t[k] then lev ((L s).drop (i + 1)) ((L t).drop (k + 1)) else 1 + min (lev ((L s).drop (i + 1)) ((L t).drop k)) (min (lev ((L s).drop i) ((L t).drop (k + 1))) (lev ((L s).drop (i + 1)) ((L t).drop (k + 1))))) := by
                have h1 := drop_byte s i hil
                have h2 := drop_byte t k hkl
                unfold Hid
                rw [h1, h2, lev_cons]
              have z1 := lev_len ((L s).drop (i + 1)) ((L t).drop k)
              have z2 := lev_len ((L s).drop (i + 1)) ((L t).drop (k + 1))
              have z3 := lev_len ((L s).drop i) ((L t).drop (k + 1))
              simp only [List.length_drop, L_len] at z1 z2 z3
              have y1 : lev ((L s).drop (i + 1)) ((L t).drop k) ≤ 400 := by omega
              have y2 : lev ((L s).drop (i + 1)) ((L t).drop (k + 1)) ≤ 400 := by omega
              have y3 : lev ((L s).drop i) ((L t).drop (k + 1)) ≤ 400 := by omega
              clear z1 z2 z3 hF
              generalize lev ((L s).drop (i + 1)) ((L t).drop k) = x1 at *
              generalize lev ((L s).drop (i + 1)) ((L t).drop (k + 1)) = x2 at *
              generalize lev ((L s).drop i) ((L t).drop (k + 1)) = x3 at *
              by_cases he : s[i] = t[k]
              · have g3 : ((s[i].toNat : Int) == (t[k].toNat : Int)) = true := by rw [he]; simp
                have HL2 := Lib.hid (HLV.out.trans (if_pos he))
                clear he HLV
                go_wp2_with fail
                go_quiet (fail)
                go_wp2_with fail
                go_region
                go_wp2_with fail
                go_roundw
                case rel => exact ⟨k, _, by omega, by go_num, HD.out _ _ (by rw [HL2.out]), Below.setCell (below_drewN hb _) gI0 _⟩
                case measure => simp [intOf]
              · have g3 : ((s[i].toNat : Int) == (t[k].toNat : Int)) = false := by
                  rw [beq_eq_false_iff_ne]; intro h; exact he (UInt8.toNat_inj.1 (by omega))
                have HL2 := Lib.hid (HLV.out.trans (if_neg he))
                clear he HLV
                go_wp2_with fail
                go_quiet (fail)
                go_wp2_with fail
                go_region
                go_wp2_with fail
                go_roundw
                case rel => exact ⟨k, _, by omega, by go_num, HD.out _ _ (by rw [HL2.out]; split <;> split <;> omega), Below.setCell (below_drewN hb _) gI0 _⟩
                case measure => simp [intOf]
        · obtain rfl : k = 0 := by omega
          clear hF
          go_wp2_with fail
          go_roundw
          case rel =>
            refine ⟨i, G', R', by omega, by go_num, HF.out.tab, fun j h1 h2 q hq => ?_, hb⟩
            by_cases hj : j = i
            · subst hj; exact HF.out.new q (Nat.zero_le _) hq
            · exact HF.out.old j (by omega) h2 q hq
          case measure => simp [intOf]
    · obtain rfl : i = 0 := by omega
      have p0 := hT.ptr (i := 0) ⟨Nat.le_refl _, Nat.zero_le _⟩
      have r0 := (hT.row 0 ⟨Nat.le_refl _, Nat.zero_le _⟩).at_ (k := 0) (by omega)
      rw [HRv.out 0 (Nat.le_refl _) (Nat.zero_le _) 0 (Nat.zero_le _)] at r0
      clear hT
      go_wp2_with fail
      go_ret
      exact ⟨by simp, (by repeat (first | exact Below.refl _ _ | assumption | refine Below.alloc ?_ (by first | exact Nat.le_refl _ | assumption | omega | (simp <;> omega)) _ | refine Below.setCell ?_ (by first | exact Nat.le_refl _ | assumption | omega | (simp <;> omega)) _ | refine Below.drew ?_ | refine below_drewN ?_ _))⟩
end Go.Proofs.Ythnedhfjochfnaa
