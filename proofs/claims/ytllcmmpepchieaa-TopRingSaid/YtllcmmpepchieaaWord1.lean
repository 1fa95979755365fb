/- word.Borders and what the document says of it. -/
import Derived.Test.YtllcmmpepchieaaWord0
import Derived.Test.YtllcmmpepchieaaDistN
namespace Go.Proofs.Ytllcmmpepchieaa
open Go.RowKit
def bI (s : List UInt8) (m : Nat) : List Int := (bords s m).map Int.ofNat
theorem bI_len (s : List UInt8) (m : Nat) : (bI s m).length = m := by simp [bI, bords_len]
theorem bI_succ (s : List UInt8) (m : Nat) : bI s (m + 1) = bI s m ++ [(fb s (m + 1) : Int)] := by simp [bI, bords_succ]
theorem bI_at (s : List UInt8) (m j : Nat) (h : j < m) : (bI s m).getD j 0 = (fb s (j + 1) : Nat) := by
  rw [List.getD_eq_getElem?_getD, bI, List.getElem?_map, bords_at s m j h]; rfl
theorem eq_bI {s : List UInt8} {m : Nat} {l : List Int} (hl : l.length = m) (h : ∀ j, j < m → l.getD j 0 = (fb s (j + 1) : Nat)) : l = bI s m := by
  apply List.ext_getElem
  · rw [hl, bI_len]
  · intro j h1 h2
    have h3 := h j (by omega)
    rw [← bI_at s m j (by omega)] at h3
    rw [List.getD_eq_getElem?_getD, List.getElem?_eq_getElem h1, List.getD_eq_getElem?_getD, List.getElem?_eq_getElem h2] at h3
    exact h3
theorem neB {a b : UInt8} : ((a.toNat : Int) != (b.toNat : Int)) = decide (a ≠ b) := by
  rw [Bool.eq_iff_iff, bne_iff_ne, decide_eq_true_iff]
  constructor
  · intro h e; exact h (by rw [e])
  · intro h e; exact h (UInt8.toNat_inj.1 (by omega))
theorem eqB {a b : UInt8} : ((a.toNat : Int) == (b.toNat : Int)) = decide (a = b) := by
  rw [Bool.eq_iff_iff, beq_iff_eq, decide_eq_true_iff]
  constructor
  · intro e; exact UInt8.toNat_inj.1 (by omega)
  · intro e; rw [e]
set_option maxHeartbeats 1000000 in
theorem wordBorders_large (s : ByteArray) (hs : 200 < s.size) (w : World) :
    Calls Try.prog 46 #[.string s] w fun e w' => e = .returned (.tuple #[.slice none 0 0, .int .i64 2]) ∧ Below w.heap.size w w' := by
  have HE : Hid (longErr s.size = 2) := by unfold Hid longErr; rw [if_pos hs]
  go_enter Try.func46, Try.ntmps46
  go_wp2_with fail
  refine (wordCheck_any s _).mono ?_
  rintro e w1 ⟨rfl, hb1⟩
  rw [HE.out]
  go_wp2_with fail
  go_ret2
  exact ⟨rfl, hb1⟩
set_option maxRecDepth 100000 in
set_option maxHeartbeats 8000000 in
theorem wordBorders_any (s : ByteArray) (hs : s.size ≤ 200) (w : World) :
    Calls Try.prog 46 #[.string s] w fun e w' => ∃ g, e = .returned (.tuple #[.slice (some ⟨g, 0, none⟩) s.size s.size, .int .i64 0]) ∧ ArrI w' w.heap.size g s.size (bI (L s) s.size) ∧ Below w.heap.size w w' := by
  obtain ⟨i0, hi0, hz0, hz1, hz2⟩ := info_parts info_int
  have HE : Hid (longErr s.size = 0) := by unfold Hid longErr; rw [if_neg (by omega)]
  go_enter Try.func46, Try.ntmps46
  go_wp2_with fail
  refine (wordCheck_any s _).mono ?_
  rintro e w1 ⟨rfl, hb1⟩
  rw [HE.out]
  go_wp2_with (at_make; go_must (refine wpList_make_full _ rfl _ _ _ rfl w.heap.size 3 i0 _ 1 Try.underlying45 hi0 hz0 hz1 .i64 .i64 (s.size : Int) (s.size : Int) s.size rfl rfl (by omega) (by omega) (by rw [hz2]; omega) (by unfold maxLen; omega) hb1.size ?_); intro w2 hown2 hg2)
  have hb2 : Below w.heap.size w w2 := hb1.grown hg2 hb1.size (fun _ h => by cases h)
  have hgz : w.heap.size ≤ w1.heap.size := hb1.size
  have hown2 : ArrI w2 w.heap.size w1.heap.size s.size (List.replicate s.size 0) := by
    rw [made_ints] at hown2; exact hown2
  clear hg2 hb1
  generalize w1.heap.size = g at *
  go_loopw [6] (fun i wr => ∃ (k : Nat) (l : List Int), 1 ≤ k ∧ (k ≤ s.size ∨ k = 1) ∧ i = .int .i64 (k : Nat) ∧ ArrI wr w.heap.size g s.size l ∧ (∀ j, j < k → j < s.size → l.getD j 0 = (fb (L s) (j + 1) : Nat)) ∧ Below w.heap.size w wr) (fun i _ => s.size - (intOf i).toNat)
  case atStart => exact ⟨1, _, by omega, .inr rfl, rfl, hown2, fun j h h2 => by
    obtain rfl : j = 0 := by omega
    rw [List.getD_eq_getElem?_getD, List.getElem?_replicate, if_pos h2, fb_one]; rfl, hb2⟩
  case round =>
    clear hown2 hb2
    obtain ⟨k, l, hk1, hk, rfl, hrow, hl, hb⟩ := hrel
    obtain ⟨wo, hwo⟩ : ∃ wo : World, wo = wr := ⟨_, rfl⟩
    subst hwo
    have HL := Lib.hid hl
    clear hl
    have hln := hrow.len
    by_cases hlt : k < s.size
    · have c0 := hrow.at_ (k := k - 1) (by omega)
      rw [HL.out (k - 1) (by omega) (by omega), show k - 1 + 1 = k by omega] at c0
      have g1 : decide ((k : Int) < (s.size : Int)) = true := decide_eq_true (by omega)
      have hfl := fb_lt (L s) (n := k) (by omega)
      have HK0 := Lib.hid (KmpAt.start (s := L s) (i := k) (by omega))
      have HROW := Lib.hid hrow
      clear hrow
      generalize fb (L s) k = f0 at *
      go_wp2_with fail
      go_loopw [7] (fun q wr => ∃ x m : Nat, x < k ∧ q = .int .i64 x ∧ KmpAt (L s) k x ∧ wr = wo.drewN m) (fun q _ => (intOf q).toNat)
      case atStart => exact ⟨f0, 0, hfl, rfl, HK0.out, by first | rfl | simp⟩
      case round =>
        clear HK0 hfl c0
        obtain ⟨x, m, hx, rfl, hK, rfl⟩ := hrel
        have HK := Lib.hid hK
        clear hK
        have hxs : x < s.size := by omega
        have e1 := getB s x (by omega)
        have e2 := getB s k (by omega)
        have hstep : ∀ (v : Nat), fb (L s) (k + 1) = v → ∀ n, (∀ j, j < k + 1 → j < s.size → (l.set k (v : Int)).getD j 0 = (fb (L s) (j + 1) : Nat)) ∧ ArrI ((wo.drewN n).setCell ⟨g, k, none⟩ (.int .i64 (v : Int))) w.heap.size g s.size (l.set k (v : Int)) := fun v hv n => by
          refine ⟨fun j h1 h2 => ?_, (HROW.out.drewN n).set_ k v⟩
          rw [getD_set _ _ _ _ (by omega)]
          by_cases hj : j = k
          · rw [if_pos hj, hj, hv]
          · rw [if_neg hj]; exact HL.out j (by omega) h2
        have HST := Lib.hid hstep
        clear hstep
        have f1 := HROW.out.free k
        have c1 := HROW.out.at_ (k := k) hlt
        by_cases hx0 : 0 < x
        · have g2 : decide ((0 : Int) < (x : Int)) = true := decide_eq_true (by omega)
          by_cases hne : s[x] = s[k]
          · have g3 : ((s[x].toNat : Int) != (s[k].toNat : Int)) = false := by rw [neB, decide_eq_false_iff_not]; exact fun h => h hne
            have g4 : ((s[x].toNat : Int) == (s[k].toNat : Int)) = true := by rw [eqB, decide_eq_true_iff]; exact hne
            have HN : Hid (fb (L s) (k + 1) = x + 1) := HK.out.hit (by rw [← e1, ← e2]; exact hne)
            clear e1 e2 hne
            go_wp2_with fail
            go_quiet (fail)
            go_wp2_with fail
            go_quiet (fail)
            go_wp2_with fail
            go_roundw
            case rel =>
              obtain ⟨h1, h2⟩ := HST.out (x + 1) HN.out (m + 2)
              refine ⟨k + 1, _, by omega, .inl (by omega), by go_num, h2, h1, ?_⟩
              exact (by repeat (first | exact Below.refl _ _ | assumption | refine Below.alloc ?_ (by first | exact Nat.le_refl _ | assumption | omega | (simp <;> omega)) _ | refine Below.setCell ?_ (by first | exact Nat.le_refl _ | assumption | omega | (simp <;> omega)) _ | refine Below.drew ?_ | refine below_drewN ?_ _))
            case measure => simp [intOf]; omega
          · have g3 : ((s[x].toNat : Int) != (s[k].toNat : Int)) = true := by rw [neB, decide_eq_true_iff]; exact hne
            have HN : Hid (KmpAt (L s) k (fb (L s) x)) := HK.out.next hx0 (by rw [← e1, ← e2]; exact hne)
            have hfx := fb_lt (L s) hx0
            have c2 := HROW.out.at_ (k := x - 1) (by omega)
            rw [HL.out (x - 1) (by omega) (by omega), show x - 1 + 1 = x by omega] at c2
            generalize fb (L s) x = f1 at *
            clear e1 e2 hne
            go_wp2_with fail
            go_quiet (fail)
            go_wp2_with fail
            go_roundw
            case rel => exact ⟨f1, m + nq, by omega, rfl, HN.out, by first | rfl | simp [World.drewN_drewN] | (rw [World.drewN_add])⟩
            case measure => simp [intOf]; omega
        · obtain rfl : x = 0 := by omega
          have g2 : decide ((0 : Int) < ((0 : Nat) : Int)) = false := by decide
          by_cases hne : s[0] = s[k]
          · have g4 : ((s[0].toNat : Int) == (s[k].toNat : Int)) = true := by rw [eqB, decide_eq_true_iff]; exact hne
            have HN : Hid (fb (L s) (k + 1) = 0 + 1) := HK.out.hit (by rw [← e1, ← e2]; exact hne)
            clear e1 e2 hne
            go_wp2_with fail
            go_quiet (fail)
            go_wp2_with fail
            go_quiet (fail)
            go_wp2_with fail
            go_roundw
            case rel =>
              obtain ⟨h1, h2⟩ := HST.out (0 + 1) HN.out (m + 2)
              refine ⟨k + 1, _, by omega, .inl (by omega), by go_num, h2, h1, ?_⟩
              exact (by repeat (first | exact Below.refl _ _ | assumption | refine Below.alloc ?_ (by first | exact Nat.le_refl _ | assumption | omega | (simp <;> omega)) _ | refine Below.setCell ?_ (by first | exact Nat.le_refl _ | assumption | omega | (simp <;> omega)) _ | refine Below.drew ?_ | refine below_drewN ?_ _))
            case measure => simp [intOf]; omega
          · have g4 : ((s[0].toNat : Int) == (s[k].toNat : Int)) = false := by rw [eqB, decide_eq_false_iff_not]; exact hne
            have HN : Hid (fb (L s) (k + 1) = 0) := HK.out.miss (by rw [← e1, ← e2]; exact hne)
            clear e1 e2 hne
            go_wp2_with fail
            go_quiet (fail)
            go_wp2_with fail
            go_quiet (fail)
            go_wp2_with fail
            go_roundw
            case rel =>
              obtain ⟨h1, h2⟩ := HST.out 0 HN.out (m + 2)
              refine ⟨k + 1, _, by omega, .inl (by omega), by go_num, h2, h1, ?_⟩
              exact (by repeat (first | exact Below.refl _ _ | assumption | refine Below.alloc ?_ (by first | exact Nat.le_refl _ | assumption | omega | (simp <;> omega)) _ | refine Below.setCell ?_ (by first | exact Nat.le_refl _ | assumption | omega | (simp <;> omega)) _ | refine Below.drew ?_ | refine below_drewN ?_ _))
            case measure => simp [intOf]; omega
    · have g1 : decide ((k : Int) < (s.size : Int)) = false := decide_eq_false (by omega)
      have HROW := Lib.hid hrow
      clear hrow
      go_wp2_with fail
      go_ret2
      refine ⟨g, rfl, ?_, hb⟩
      have : l = bI (L s) s.size := eq_bI hln fun j hj => HL.out j (by omega) hj
      rw [← this]; exact HROW.out
end Go.Proofs.Ytllcmmpepchieaa
