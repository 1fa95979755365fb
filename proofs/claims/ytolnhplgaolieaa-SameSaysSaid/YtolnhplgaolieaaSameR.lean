/- The reference's SameOf. -/
import Derived.Test.YtolnhplgaolieaaTab
import Derived.Test.YtolnhplgaolieaaSame0
import Derived.Test.YtolnhplgaolieaaDistF
import Derived.Test.YtolnhplgaolieaaDistO
namespace Go.Proofs.Ytolnhplgaolieaa
open Go.RowKit
/-- So much the beginnings have in common. -/
def lcsT (s t : ByteArray) (i k : Nat) : Nat := lcs ((L s).take i) ((L t).take k)
theorem lcsT_left (s t : ByteArray) (k : Nat) : lcsT s t 0 k = 0 := by
  unfold lcsT; rw [List.take_zero, lcs_nil_left]
theorem lcsT_right (s t : ByteArray) (i : Nat) : lcsT s t i 0 = 0 := by
  unfold lcsT; rw [List.take_zero, lcs_nil_right]
theorem lcsT_step (s t : ByteArray) (i k : Nat) (hi : i < s.size) (hk : k < t.size) : lcsT s t (i + 1) (k + 1) = if s[i] = t[k] then lcsT s t i k + 1 else max (lcsT s t i (k + 1)) (lcsT s t (i + 1) k) := by
  unfold lcsT; rw [take_byte s i hi, take_byte t k hk, lcs_snoc]
theorem lcsT_le (s t : ByteArray) (i k : Nat) : lcsT s t i k ≤ s.size ∧ lcsT s t i k ≤ t.size := by
  have := lcs_le ((L s).take i) ((L t).take k)
  simp only [List.length_take, L_len] at this
  unfold lcsT; omega
theorem lcsT_all (s t : ByteArray) : lcsT s t s.size t.size = lcs (L s) (L t) := by
  unfold lcsT; rw [List.take_of_length_le (by rw [L_len]; exact Nat.le_refl _), List.take_of_length_le (by rw [L_len]; exact Nat.le_refl _)]
/-- Where the inner loop stands: k places of the next row are there. -/
structure SofIn (s t : ByteArray) (wr : World) (base g g' i k : Nat) (l l' : List Int) : Prop where
  row : ArrI wr base g (t.size + 1) l
  nxt : ArrI wr base g' (t.size + 1) l'
  ne : g ≠ g'
  old : ∀ j, j ≤ t.size → l.getD j 0 = (lcsT s t i j : Nat)
  new : ∀ j, j ≤ k → l'.getD j 0 = (lcsT s t (i + 1) j : Nat)
theorem SofIn.one {s t : ByteArray} {wr : World} {base g g' i k : Nat} {l l' : List Int} (h : SofIn s t wr base g g' i k l l') (hk : k < t.size) (m : Nat) {v : Int} (hv : v = (lcsT s t (i + 1) (k + 1) : Nat)) :
    SofIn s t ((wr.setCell ⟨g', k + 1, none⟩ (.int .i64 v)).drewN m) base g g' i (k + 1) l (l'.set (k + 1) v) := by
  have hl := h.nxt.len
  refine ⟨(h.row.kept (gb_set (gb_refl _ _) _ _) (fun e => h.ne (by simpa using e))).drewN m, (h.nxt.set_ _ _).drewN m, h.ne, h.old, fun j hj => ?_⟩
  rw [getD_set _ _ _ _ (by omega)]
  by_cases hq : j = k + 1
  · subst hq; rw [if_pos rfl]; exact hv
  · rw [if_neg hq]; exact h.new j (by omega)
theorem SofIn.two {s t : ByteArray} {wr : World} {base g g' i k : Nat} {l l' : List Int} (h : SofIn s t wr base g g' i k l l') (hk : k < t.size) (m : Nat) {u v : Int} (hv : v = (lcsT s t (i + 1) (k + 1) : Nat)) :
    SofIn s t (((wr.setCell ⟨g', k + 1, none⟩ (.int .i64 u)).drewN m).setCell ⟨g', k + 1, none⟩ (.int .i64 v)) base g g' i (k + 1) l ((l'.set (k + 1) u).set (k + 1) v) := by
  have hl := h.nxt.len
  refine ⟨((h.row.kept (gb_set (gb_refl _ _) _ _) (fun e => h.ne (by simpa using e))).drewN m).kept (gb_set (gb_refl _ _) _ _) (fun e => h.ne (by simpa using e)), ((h.nxt.set_ _ _).drewN m).set_ _ _, h.ne, h.old, fun j hj => ?_⟩
  rw [getD_set _ _ _ _ (by rw [List.length_set]; omega), getD_set _ _ _ _ (by omega)]
  by_cases hq : j = k + 1
  · subst hq; rw [if_pos rfl]; exact hv
  · rw [if_neg hq, if_neg hq]; exact h.new j (by omega)
set_option maxRecDepth 100000 in
set_option maxHeartbeats 8000000 in
theorem sameOf_any (s t : ByteArray) (hs : s.size ≤ 200) (ht : t.size ≤ 200) (w : World) :
    Calls Try.prog 19 #[.string s, .string t] w fun e w' => e = .returned (.int .i64 (lcs (L s) (L t) : Nat)) ∧ Below w.heap.size w w' := by
  obtain ⟨i0, hi0, hz0, hz1, hz2⟩ := info_parts info_int
  go_enter Try.func19, Try.ntmps19
  go_wp2_with (at_make; go_must (refine wpList_make_full _ rfl _ _ _ rfl w.heap.size 3 i0 _ 1 Try.underlying25 hi0 hz0 hz1 .i64 .i64 ((t.size : Int) + 1) ((t.size : Int) + 1) (t.size + 1) rfl rfl (by omega) (by omega) (by rw [hz2]; omega) (by unfold maxLen; omega) (Nat.le_refl _) ?_); intro w2 hown2 hg2)
  have hb2 : Below w.heap.size w w2 := (Below.refl _ _).grown hg2 (Nat.le_refl _) (fun _ h => by cases h)
  have hown2 : ArrI w2 w.heap.size w.heap.size (t.size + 1) (List.replicate (t.size + 1) 0) := by
    rw [made_ints] at hown2; exact hown2
  have HO2 := Lib.hid hown2
  clear hg2 hown2
  go_loopw [15, 5] (fun i v wr => ∃ (k g : Nat) (l : List Int), k ≤ s.size ∧ i = .int .i64 k ∧ v = .slice (some ⟨g, 0, none⟩) (t.size + 1) (t.size + 1) ∧ ArrI wr w.heap.size g (t.size + 1) l ∧ (∀ j, j ≤ t.size → l.getD j 0 = (lcsT s t k j : Nat)) ∧ Below w.heap.size w wr) (fun i _ _ => s.size - (intOf i).toNat)
  case atStart =>
    refine ⟨0, _, _, Nat.zero_le _, rfl, by first | rfl | simp, HO2.out, fun j hj => ?_, hb2⟩
    rw [lcsT_left, List.getD_eq_getElem?_getD, List.getElem?_eq_getElem (by rw [List.length_replicate]; omega)]; simp
  case round =>
    clear HO2 hb2
    obtain ⟨i, g, l, hi, rfl, rfl, hrow, hl, hb⟩ := hrel
    obtain ⟨wo, hwo⟩ : ∃ wo : World, wo = wr := ⟨_, rfl⟩
    subst hwo
    have HL := Lib.hid hl
    have HROW := Lib.hid hrow
    clear hl hrow
    have hbs := hb.size
    have hglt := HROW.out.lt
    by_cases hlt : i < s.size
    · have g2 : decide ((i : Int) < (s.size : Int)) = true := decide_eq_true (by omega)
      go_wp2_with (at_make; go_must (refine wpList_make_full _ rfl _ _ _ rfl w.heap.size 3 i0 _ 1 Try.underlying25 hi0 hz0 hz1 .i64 .i64 ((t.size : Int) + 1) ((t.size : Int) + 1) (t.size + 1) rfl rfl (by omega) (by omega) (by rw [hz2]; omega) (by unfold maxLen; omega) hbs ?_); intro w3 hown3 hg3)
      have hb3 : Below wo.heap.size wo w3 := (Below.refl _ _).grown hg3 (Nat.le_refl _) (fun _ h => by cases h)
      have hrow3 : ArrI w3 w.heap.size wo.heap.size (t.size + 1) (List.replicate (t.size + 1) 0) := by
        rw [made_ints] at hown3; exact hown3
      have HF0 : Hid (SofIn s t w3 w.heap.size g wo.heap.size i 0 l (List.replicate (t.size + 1) 0)) := ⟨HROW.out.below hb3, hrow3, by omega, HL.out, fun j hj => by
        obtain rfl : j = 0 := by omega
        rw [lcsT_right, List.getD_eq_getElem?_getD, List.getElem?_eq_getElem (by rw [List.length_replicate]; omega)]; simp⟩
      have hB3 := bthen hb hb3
      clear hown3 hrow3 hg3 hb3 HROW HL hb
      generalize wo.heap.size = g' at *
      go_loopw [24] (fun k wr => ∃ (k' : Nat) (l' : List Int), k' ≤ t.size ∧ k = .int .i64 k' ∧ SofIn s t wr w.heap.size g g' i k' l l' ∧ Below w.heap.size w wr) (fun k _ => t.size - (intOf k).toNat)
      case atStart => exact ⟨0, _, Nat.zero_le _, rfl, HF0.out, hB3⟩
      case round =>
        clear HF0 hB3
        obtain ⟨k, l', hk, rfl, hO, hb⟩ := hrel
        have HO := Lib.hid hO
        clear hO
        by_cases hkt : k < t.size
        · have g3 : decide ((k : Int) < (t.size : Int)) = true := decide_eq_true (by omega)
          have c1 := HO.out.row.at_ (k := k + 1) (by omega)
          have c2 := HO.out.row.at_ (k := k) (by omega)
          have c3 := HO.out.nxt.at_ (k := k) (by omega)
          have c4 := HO.out.nxt.at_ (k := k + 1) (by omega)
          have f1 := HO.out.nxt.free (k + 1)
          have gne := HO.out.ne
          have glt := HO.out.nxt.lt.1
          rw [HO.out.old (k + 1) (by omega)] at c1
          rw [HO.out.old k (by omega)] at c2
          rw [HO.out.new k (Nat.le_refl _)] at c3
          have H1 : Hid (∀ (m : Nat) (v : Int), v = (lcsT s t (i + 1) (k + 1) : Nat) → SofIn s t ((wr.setCell ⟨g', k + 1, none⟩ (.int .i64 v)).drewN m) w.heap.size g g' i (k + 1) l (l'.set (k + 1) v)) := fun m v hv => HO.out.one hkt m hv
          have H2 : Hid (∀ (m : Nat) (u v : Int), v = (lcsT s t (i + 1) (k + 1) : Nat) → SofIn s t (((wr.setCell ⟨g', k + 1, none⟩ (.int .i64 u)).drewN m).setCell ⟨g', k + 1, none⟩ (.int .i64 v)) w.heap.size g g' i (k + 1) l ((l'.set (k + 1) u).set (k + 1) v)) := fun m u v hv => HO.out.two hkt m hv
          have HS := Lib.hid (lcsT_step s t i k hlt hkt)
          have y1 := (lcsT_le s t i k).1
          have y2 := (lcsT_le s t (i + 1) k).1
          have y3 := (lcsT_le s t i (k + 1)).1
          clear HO
          generalize lcsT s t i k = x1 at *
          generalize lcsT s t (i + 1) k = x2 at *
          generalize lcsT s t i (k + 1) = x3 at *
          generalize l'.getD (k + 1) 0 = x4 at *
          by_cases he : s[i] = t[k]
          · have g4 : ((s[i].toNat : Int) == (t[k].toNat : Int)) = true := by rw [he]; simp
            rw [if_pos he] at HS
            clear he
            go_wp2_with fail
            go_region
            all_goals go_wp2_with fail
            all_goals go_quiet (fail)
            all_goals go_wp2_with fail
            all_goals
              go_roundw
              case rel => exact ⟨k + 1, _, by omega, by go_num, H2.out _ _ _ (by rw [HS.out]; go_num), (by repeat (first | exact Below.refl _ _ | assumption | refine Below.alloc ?_ (by first | exact Nat.le_refl _ | assumption | omega | (simp <;> omega)) _ | refine Below.setCell ?_ (by first | exact Nat.le_refl _ | assumption | omega | (simp <;> omega)) _ | refine Below.drew ?_ | refine below_drewN ?_ _))⟩
              case measure => simp [intOf]; omega
          · have g4 : ((s[i].toNat : Int) == (t[k].toNat : Int)) = false := by
              rw [beq_eq_false_iff_ne]; intro h; exact he (UInt8.toNat_inj.1 (by omega))
            rw [if_neg he] at HS
            clear he
            go_wp2_with fail
            go_region
            all_goals go_wp2_with fail
            all_goals go_quiet (fail)
            all_goals go_wp2_with fail
            all_goals
              go_roundw
              case rel => exact ⟨k + 1, _, by omega, by go_num, H1.out _ _ (by rw [HS.out]; first | omega | (split <;> omega)), (by repeat (first | exact Below.refl _ _ | assumption | refine Below.alloc ?_ (by first | exact Nat.le_refl _ | assumption | omega | (simp <;> omega)) _ | refine Below.setCell ?_ (by first | exact Nat.le_refl _ | assumption | omega | (simp <;> omega)) _ | refine Below.drew ?_ | refine below_drewN ?_ _))⟩
              case measure => simp [intOf]; omega
        · obtain rfl : k = t.size := by omega
          have g3 : decide ((t.size : Int) < (t.size : Int)) = false := decide_eq_false (by omega)
          go_wp2_with fail
          go_roundw
          case rel => exact ⟨i + 1, g', l', by omega, by go_num, rfl, HO.out.nxt, fun j hj => HO.out.new j hj, hb⟩
          case measure => simp [intOf]; omega
    · obtain rfl : i = s.size := by omega
      have g2 : decide ((s.size : Int) < (s.size : Int)) = false := decide_eq_false (by omega)
      have c0 := HROW.out.at_ (k := t.size) (by omega)
      rw [HL.out t.size (Nat.le_refl _), lcsT_all] at c0
      go_wp2_with fail
      go_ret
      exact ⟨rfl, hb⟩
end Go.Proofs.Ytolnhplgaolieaa
