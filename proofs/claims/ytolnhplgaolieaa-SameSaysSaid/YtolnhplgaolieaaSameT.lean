/- same.table: how much what is left of both has in common. -/
import Derived.Test.YtolnhplgaolieaaTab
import Derived.Test.YtolnhplgaolieaaSame0
import Derived.Test.YtolnhplgaolieaaDistF
namespace Go.Proofs.Ytolnhplgaolieaa
open Go.RowKit
/-- What is left of both has so much in common. -/
def lcsD (s t : ByteArray) (i k : Nat) : Nat := lcs ((L s).drop i) ((L t).drop k)
theorem lcsD_left (s t : ByteArray) (k : Nat) : lcsD s t s.size k = 0 := by
  unfold lcsD; rw [List.drop_of_length_le (by rw [L_len]; exact Nat.le_refl _), lcs_nil_left]
theorem lcsD_right (s t : ByteArray) (i : Nat) : lcsD s t i t.size = 0 := by
  unfold lcsD; rw [List.drop_of_length_le (l := L t) (by rw [L_len]; exact Nat.le_refl _), lcs_nil_right]
theorem lcsD_step (s t : ByteArray) (i k : Nat) (hi : i < s.size) (hk : k < t.size) : lcsD s t i k = if s[i] = t[k] then lcsD s t (i + 1) (k + 1) + 1 else max (lcsD s t (i + 1) k) (lcsD s t i (k + 1)) := by
  have h1 := drop_byte s i hi
  have h2 := drop_byte t k hk
  unfold lcsD
  rw [h1, h2, lcs_cons]
theorem lcsD_le (s t : ByteArray) (i k : Nat) : lcsD s t i k ≤ s.size ∧ lcsD s t i k ≤ t.size := by
  have := lcs_le ((L s).drop i) ((L t).drop k)
  simp only [List.length_drop, L_len] at this
  unfold lcsD; omega
theorem lcsD_zero (s t : ByteArray) : lcsD s t 0 0 = lcs (L s) (L t) := rfl
/-- Where the inner loop stands. -/
structure SameIn (s t : ByteArray) (base : Nat) (wr : World) (gT : Nat) (G : Nat → Nat) (i k : Nat) (R : Nat → List Int) : Prop where
  tab : Tab wr base gT (s.size + 1) (t.size + 1) (fun j => j ≤ s.size) G R
  old : ∀ j, i + 1 ≤ j → j ≤ s.size → ∀ k, k ≤ t.size → (R j).getD k 0 = (lcsD s t j k : Nat)
  new : ∀ k', k ≤ k' → k' ≤ t.size → (R i).getD k' 0 = (lcsD s t i k' : Nat)
  edge : ∀ j, j ≤ s.size → (R j).getD t.size 0 = 0
theorem SameIn.step {s t : ByteArray} {base : Nat} {wr : World} {gT : Nat} {G : Nat → Nat} {i k : Nat} {R : Nat → List Int} (h : SameIn s t base wr gT G i (k + 1) R) (hi : i ≤ s.size) (hk : k < t.size) (n : Nat) {v : Int} (hv : v = (lcsD s t i k : Nat)) :
    SameIn s t base ((wr.drewN n).setCell ⟨G i, k, none⟩ (.int .i64 v)) gT G i k (fun j => if j = i then (R i).set k v else R j) := by
  have hl := (h.tab.row i hi).len
  refine ⟨(h.tab.drewN n).set_ hi k v, fun j h1 h2 q hq => ?_, fun q h1 h2 => ?_, fun j h1 => ?_⟩
  · simp only [show ¬ j = i by omega, if_false]; exact h.old j h1 h2 q hq
  · simp only [if_true]
    rw [getD_set _ _ _ _ (by omega)]
    by_cases hq : q = k
    · subst hq; rw [if_pos rfl]; exact hv
    · rw [if_neg hq]; exact h.new q (by omega) h2
  · by_cases hj : j = i
    · subst hj
      simp only [if_true]
      rw [getD_set _ _ _ _ (by omega), if_neg (by omega)]; exact h.edge j h1
    · simp only [hj, if_false]; exact h.edge j h1
/-- The table as it is handed back. -/
structure SameTab (s t : ByteArray) (base : Nat) (wr : World) (gT : Nat) (G : Nat → Nat) (R : Nat → List Int) : Prop where
  tab : Tab wr base gT (s.size + 1) (t.size + 1) (fun j => j ≤ s.size) G R
  val : ∀ j, j ≤ s.size → ∀ k, k ≤ t.size → (R j).getD k 0 = (lcsD s t j k : Nat)
theorem SameTab.below {s t : ByteArray} {base : Nat} {w w' : World} {gT : Nat} {G : Nat → Nat} {R : Nat → List Int} (h : SameTab s t base w gT G R) (hb : Below w.heap.size w w') : SameTab s t base w' gT G R := ⟨h.tab.below hb, h.val⟩
theorem SameTab.cells {s t : ByteArray} {base : Nat} {w : World} {gT : Nat} {G : Nat → Nat} {R : Nat → List Int} (h : SameTab s t base w gT G R) {i k : Nat} (hi : i ≤ s.size) (hk : k ≤ t.size) :
    w.cell? ⟨gT, i, none⟩ = some (.slice (some ⟨G i, 0, none⟩) (t.size + 1) (t.size + 1)) ∧ w.cell? ⟨G i, k, none⟩ = some (.int .i64 (lcsD s t i k : Nat)) := by
  have h1 := h.tab.ptr (i := i) hi
  have h2 := (h.tab.row i hi).at_ (k := k) (by omega)
  rw [h.val i hi k hk] at h2
  exact ⟨h1, h2⟩
set_option maxRecDepth 100000 in
set_option maxHeartbeats 8000000 in
theorem table_any (s t : ByteArray) (hs : s.size ≤ 200) (ht : t.size ≤ 200) (w : World) :
    Calls Try.prog 83 #[.string s, .string t] w fun e w' => ∃ G R, e = .returned (.slice (some ⟨w.heap.size, 0, none⟩) (s.size + 1) (s.size + 1)) ∧ SameTab s t w.heap.size w' w.heap.size G R ∧ Below w.heap.size w w' := by
  obtain ⟨i0, hi0, hz0, hz1, hz2⟩ := info_parts info_int
  obtain ⟨j0, hj0, jz0, jz1, jz2⟩ := info_parts info_row
  go_enter Try.func83, Try.ntmps83
  go_wp2_with (at_make; go_must (refine wpList_make_full _ rfl _ _ _ rfl w.heap.size 25 j0 _ 1 Try.underlying119 hj0 jz0 jz1 .i64 .i64 ((s.size : Int) + 1) ((s.size : Int) + 1) (s.size + 1) rfl rfl (by omega) (by omega) (by rw [jz2]; omega) (by unfold maxLen; omega) (Nat.le_refl _) ?_); intro w2 hown2 hg2)
  have hb2 : Below w.heap.size w w2 := (Below.refl _ _).grown hg2 (Nat.le_refl _) (fun _ h => by cases h)
  clear hg2
  go_loopw [15] (fun i wr => ∃ (k : Nat) (G : Nat → Nat) (R : Nat → List Int), k ≤ s.size + 1 ∧ i = .int .i64 k ∧ Tab wr w.heap.size w.heap.size (s.size + 1) (t.size + 1) (fun j => j < k) G R ∧
      (∀ j, j < k → ∀ q, q ≤ t.size → (R j).getD q 0 = 0) ∧ Below w.heap.size w wr) (fun i _ => s.size + 1 - (intOf i).toNat)
  case atStart =>
    refine ⟨0, fun _ => 0, fun _ => [], Nat.zero_le _, rfl, ?_, fun j h1 => by omega, hb2⟩
    exact (Tab.start hown2 (t.size + 1) (fun _ => 0) (fun _ => [])).congr fun j => ⟨False.elim, fun h => absurd h (Nat.not_lt_zero _)⟩
  case round =>
    obtain ⟨i, G, R, hi, rfl, hT, hR, hb⟩ := hrel
    obtain ⟨wo, hwo⟩ : ∃ wo : World, wo = wr := ⟨_, rfl⟩
    subst hwo
    have HT := Lib.hid hT
    have HRv := Lib.hid hR
    clear hR
    have hbs := hb.size
    have hgl := hT.gT_lt.2
    by_cases hlt : i < s.size + 1
    · have g1 : decide ((i : Int) < (s.size : Int) + 1) = true := decide_eq_true (by omega)
      obtain ⟨u0, cs0, cf0⟩ := hT.slot (i := i) (by omega)
      clear hT
      go_wp2_with (at_make; go_must (refine wpList_make_full _ rfl _ _ _ rfl w.heap.size 3 i0 _ 1 Try.underlying25 hi0 hz0 hz1 .i64 .i64 ((t.size : Int) + 1) ((t.size : Int) + 1) (t.size + 1) rfl rfl (by omega) (by omega) (by rw [hz2]; omega) (by unfold maxLen; omega) hbs ?_); intro w3 hown3 hg3; have hcs3 := (hg3.cell cs0 (by simp)); have hcf3 := (hg3.frozen_far ⟨w.heap.size, i, none⟩ hgl (by simp)).trans cf0)
      have hb3 : Below wo.heap.size wo w3 := (Below.refl _ _).grown hg3 (Nat.le_refl _) (fun _ h => by cases h)
      have hrow3 : ArrI w3 w.heap.size wo.heap.size (t.size + 1) (List.replicate (t.size + 1) 0) := by
        rw [made_ints] at hown3; exact hown3
      have HF0 := Lib.hid (((HT.out.below hb3).add (i := i) (fun h => by omega) (by omega) hrow3 (fun j hj => by have := (HT.out.row j hj).lt.2; omega)).congr (E' := fun j => j < i + 1) (fun j => by omega))
      have hB4 : Below w.heap.size w (w3.setCell ⟨w.heap.size, i, none⟩ (.slice (some ⟨wo.heap.size, 0, none⟩) (t.size + 1) (t.size + 1))) := Below.setCell (bthen hb hb3) (Nat.le_refl _) _
      clear hown3 hrow3 hg3 hb3
      go_roundw
      case rel =>
        refine ⟨i + 1, _, _, by omega, by go_num, HF0.out, fun j hj q hq => ?_, hB4⟩
        by_cases hji : j = i
        · simp only [hji, if_true]
          rw [List.getD_eq_getElem?_getD, List.getElem?_eq_getElem (by rw [List.length_replicate]; omega)]; simp
        · simp only [hji, if_false]; exact HRv.out j (by omega) q hq
      case measure => simp [intOf]; omega
    · obtain rfl : i = s.size + 1 := by omega
      have g1 : decide (((s.size + 1 : Nat) : Int) < (s.size : Int) + 1) = false := decide_eq_false (by omega)
      clear hT
      go_wp2_with fail
      go_loopw [7] (fun i wr => ∃ (i' : Nat) (R : Nat → List Int), i' ≤ s.size ∧ i = .int .i64 ((i' : Int) - 1) ∧ Tab wr w.heap.size w.heap.size (s.size + 1) (t.size + 1) (fun j => j ≤ s.size) G R ∧
        (∀ j, i' ≤ j → j ≤ s.size → ∀ k, k ≤ t.size → (R j).getD k 0 = (lcsD s t j k : Nat)) ∧ (∀ j, j ≤ s.size → (R j).getD t.size 0 = 0) ∧ Below w.heap.size w wr) (fun i _ => (intOf i + 1).toNat)
      case atStart =>
        refine ⟨s.size, R, Nat.le_refl _, by go_num, HT.out.congr (fun j => by omega), fun j h1 h2 k hk => ?_, fun j hj => HRv.out j (by omega) _ (Nat.le_refl _), hb⟩
        obtain rfl : j = s.size := by omega
        rw [lcsD_left, HRv.out _ (by omega) k hk]; rfl
      case round =>
        clear HT HRv hb hbs hgl
        obtain ⟨i, R, hi, rfl, hT, hR, hE, hb⟩ := hrel
        obtain ⟨wo, hwo⟩ : ∃ wo : World, wo = wr := ⟨_, rfl⟩
        subst hwo
        have HT := Lib.hid hT
        have HRv := Lib.hid hR
        have HE := Lib.hid hE
        clear hR hE hT
        by_cases hi0' : 0 < i
        · obtain ⟨i, rfl⟩ : ∃ j, i = j + 1 := ⟨i - 1, by omega⟩
          have e0 : (((i + 1 : Nat) : Int) - 1) = (i : Int) := by omega
          rw [e0]
          have HF0 : Hid (SameIn s t w.heap.size wo w.heap.size G i t.size R) := ⟨HT.out, fun j h1 h2 k hk => HRv.out j h1 h2 k hk, fun k' h1 h2 => by
            obtain rfl : k' = t.size := by omega
            rw [lcsD_right, HE.out i (by omega)]; rfl, HE.out⟩
          go_wp2_with fail
          go_loopw [8] (fun k wr => ∃ (k' : Nat) (R' : Nat → List Int), k' ≤ t.size ∧ k = .int .i64 ((k' : Int) - 1) ∧ SameIn s t w.heap.size wr w.heap.size G i k' R' ∧ Below w.heap.size w wr) (fun k _ => (intOf k + 1).toNat)
          case atStart => exact ⟨t.size, R, Nat.le_refl _, by go_num, HF0.out, hb⟩
          case round =>
            clear HF0 hb HT HRv HE
            obtain ⟨k, R', hk, rfl, hF, hb⟩ := hrel
            have HF := Lib.hid hF
            have hbs := hb.size
            by_cases hk0 : 0 < k
            · obtain ⟨k, rfl⟩ : ∃ j, k = j + 1 := ⟨k - 1, by omega⟩
              have e1 : (((k + 1 : Nat) : Int) - 1) = (k : Int) := by omega
              rw [e1]
              have hil : i < s.size := by omega
              have hkl : k < t.size := by omega
              have pI := hF.tab.ptr (i := i) (show i ≤ s.size by omega)
              have rI := (hF.tab.row i (show i ≤ s.size by omega)).at_ (k := k) (by omega)
              have fI := (hF.tab.row i (show i ≤ s.size by omega)).free k
              have gI := (hF.tab.row i (show i ≤ s.size by omega)).lt
              obtain ⟨gI0, gI1⟩ := gI
              have HD : Hid (∀ (n : Nat) (v : Int), v = (lcsD s t i k : Nat) → SameIn s t w.heap.size ((wr.drewN n).setCell ⟨G i, k, none⟩ (.int .i64 v)) w.heap.size G i k (fun j => if j = i then (R' i).set k v else R' j)) := fun n v hv => HF.out.step (by omega) hkl n hv
              generalize (R' i).getD k 0 = old at *
              have p1 := hF.tab.ptr (i := i + 1) (show i + 1 ≤ s.size by omega)
              have r10 := (hF.tab.row (i + 1) (show i + 1 ≤ s.size by omega)).at_ (k := k) (by omega)
              have r11 := (hF.tab.row (i + 1) (show i + 1 ≤ s.size by omega)).at_ (k := k + 1) (by omega)
              have r01 := (hF.tab.row i (show i ≤ s.size by omega)).at_ (k := k + 1) (by omega)
              rw [hF.old (i + 1) (Nat.le_refl _) (by omega) k (by omega)] at r10
              rw [hF.old (i + 1) (Nat.le_refl _) (by omega) (k + 1) (by omega)] at r11
              rw [hF.new (k + 1) (Nat.le_refl _) (by omega)] at r01
              have HLV := Lib.hid (lcsD_step s t i k hil hkl)
              have y1 := (lcsD_le s t (i + 1) k).1
              have y2 := (lcsD_le s t (i + 1) (k + 1)).1
              have y3 := (lcsD_le s t i (k + 1)).1
              clear hF
              generalize lcsD s t (i + 1) k = x1 at *
              generalize lcsD s t (i + 1) (k + 1) = x2 at *
              generalize lcsD s t i (k + 1) = x3 at *
              by_cases he : s[i] = t[k]
              · have g3 : ((s[i].toNat : Int) == (t[k].toNat : Int)) = true := by rw [he]; simp
                have HL2 := Lib.hid (HLV.out.trans (if_pos he))
                clear he HLV
                go_wp2_with fail
                go_quiet (fail)
                go_wp2_with fail
                go_region
                go_wp2_with fail
                go_roundw
                case rel => exact ⟨k, _, by omega, by go_num, HD.out _ _ (by rw [HL2.out]; go_num), Below.setCell (below_drewN hb _) gI0 _⟩
                case measure => simp [intOf]
              · have g3 : ((s[i].toNat : Int) == (t[k].toNat : Int)) = false := by
                  rw [beq_eq_false_iff_ne]; intro h; exact he (UInt8.toNat_inj.1 (by omega))
                have HL2 := Lib.hid (HLV.out.trans (if_neg he))
                clear he HLV
                go_wp2_with fail
                go_quiet (fail)
                go_wp2_with fail
                go_region
                go_wp2_with fail
                go_roundw
                case rel => exact ⟨k, _, by omega, by go_num, HD.out _ _ (by rw [HL2.out]; split <;> omega), Below.setCell (below_drewN hb _) gI0 _⟩
                case measure => simp [intOf]
            · obtain rfl : k = 0 := by omega
              clear hF
              go_wp2_with fail
              go_roundw
              case rel =>
                refine ⟨i, R', by omega, by go_num, HF.out.tab, fun j h1 h2 q hq => ?_, HF.out.edge, hb⟩
                by_cases hj : j = i
                · subst hj; exact HF.out.new q (Nat.zero_le _) hq
                · exact HF.out.old j (by omega) h2 q hq
              case measure => simp [intOf]
        · obtain rfl : i = 0 := by omega
          go_wp2_with fail
          go_ret
          exact ⟨G, R, by first | rfl | simp, ⟨HT.out, fun j h1 k hk => HRv.out j (Nat.zero_le _) h1 k hk⟩, (by repeat (first | exact Below.refl _ _ | assumption | refine Below.alloc ?_ (by first | exact Nat.le_refl _ | assumption | omega | (simp <;> omega)) _ | refine Below.setCell ?_ (by first | exact Nat.le_refl _ | assumption | omega | (simp <;> omega)) _ | refine Below.drew ?_ | refine below_drewN ?_ _))⟩
end Go.Proofs.Ytolnhplgaolieaa
