/- The document's borders and periods, and word.Periods. -/
import Derived.Test.YtolnhplgaolieaaWord1
namespace Go.Proofs.Ytolnhplgaolieaa
open Go.RowKit
theorem ext_bd {s : ByteArray} {n k : Nat} (hk : k ≤ n) (hn : n ≤ s.size) : s.extract 0 k = s.extract (n - k) n ↔ Bd (L s) n k := by
  rw [bd_iff_take hk (by rw [L_len]; exact hn)]
  constructor
  · intro h
    have := congrArg L h
    rw [L_extract, L_extract, List.drop_zero, Nat.sub_zero] at this
    rw [List.drop_take]; exact this
  · intro h
    apply L_inj
    rw [L_extract, L_extract, List.drop_zero, Nat.sub_zero, h, List.drop_take]
theorem neS (x y : ByteArray) : (x.toList != y.toList) = decide (x ≠ y) := by
  rw [bne, beqB]; simp
set_option maxRecDepth 100000 in
set_option maxHeartbeats 8000000 in
theorem bordersOf_any (s : ByteArray) (hs : s.size ≤ 200) (w : World) :
    Calls Try.prog 27 #[.string s] w fun e w' => ∃ v, e = .returned v ∧ w'.ownsRow w.heap.size 3 1 v (bI (L s) s.size).length (ints (bI (L s) s.size)) ∧ Below w.heap.size w w' := by
  obtain ⟨i0, hi0, hz0, hz1, hz2⟩ := info_parts info_int
  go_enter Try.func27, Try.ntmps27
  go_wp2_with fail
  go_loopw [3, 4] (fun o i wr => ∃ k : Nat, k ≤ s.size ∧ i = .int .i64 ((k + 1 : Nat) : Int) ∧ wr.ownsRow w.heap.size 3 1 o (bI (L s) k).length (ints (bI (L s) k)) ∧ Below w.heap.size w wr) (fun _ i _ => s.size + 1 - (intOf i).toNat)
  case atStart => exact ⟨0, Nat.zero_le _, rfl, World.ownsRow_nil _ _ _ _, Below.refl _ _⟩
  case round =>
    obtain ⟨k, hk, rfl, hown, hb⟩ := hrel
    obtain ⟨wo, hwo⟩ : ∃ wo : World, wo = wr := ⟨_, rfl⟩
    subst hwo
    by_cases hlt : k < s.size
    · have HOWN := Lib.hid hown
      clear hown
      have HQ := Lib.hid (bI_succ (L s) k)
      have hql := bI_len (L s) k
      generalize bI (L s) k = q at *
      have g1 : decide (((k + 1 : Nat) : Int) ≤ (s.size : Int)) = true := decide_eq_true (by omega)
      go_wp2_with fail
      go_loopw [5] (fun x wr => ∃ x' m : Nat, x' ≤ k ∧ x = .int .i64 x' ∧ fb (L s) (k + 1) = fbF (L s) (k + 1) x' ∧ wr = wo.drewN m) (fun q _ => (intOf q).toNat)
      case atStart => exact ⟨k, 0, Nat.le_refl _, rfl, rfl, by first | rfl | simp⟩
      case round =>
        obtain ⟨x, m, hx, rfl, hf, rfl⟩ := hrel
        by_cases hbd : Bd (L s) (k + 1) x
        · have hfx : fbF (L s) (k + 1) x = x := by
            cases x with
            | zero => rfl
            | succ x => rw [fbF, if_pos hbd]
          have HF : Hid (fb (L s) (k + 1) = x) := by unfold Hid; rw [hf, hfx]
          have g2 : ((s.extract 0 x).toList == (s.extract (k + 1 - x) (k + 1)).toList) = true := by
            rw [beqB, decide_eq_true_iff]; exact (ext_bd (by omega) (by omega)).2 hbd
          clear hf hfx hbd
          go_wp2_with fail
          go_quiet (fail)
          have hbD := below_drewN hb (m + nq)
          go_wp2_with (at_builtin; go_must (refine wpList_appG rfl _ _ _ rfl w.heap.size 3 i0 _ 1 8 Try.underlying25 hi0 hz0 hz1 hz2 rfl (by omega) _ q.length (ints q) rfl (World.ownsRow.alloc (w := (wo.drewN (m + nq))) HOWN.out _) ⟨(wo.drewN (m + nq)).heap.size, 0, none⟩ 1 1 [.int .i64 ((x : Int))] rfl rfl (cell_one_new _ _ _) (by simp [Value.oneCell']) (by omega) (by omega) (by have := (hbD).size; simp at this ⊢; omega) ?_); intro v6 w6 hown6 hg6 hb6; have hb6' := ((hbD).alloc (hbD).size _).trans hb6)
          clear hg6 hb6
          go_roundw
          case rel =>
            refine ⟨k + 1, by omega, by go_num, ?_, hb6'⟩
            rw [HQ.out, HF.out, ints_app, List.length_append]
            exact hown6
          case measure => simp [intOf]; omega
        · have hx0 : 0 < x := by
            rcases Nat.eq_zero_or_pos x with h | h
            · subst h; exact absurd (Bd.zero _ _) hbd
            · exact h
          have HF : Hid (fb (L s) (k + 1) = fbF (L s) (k + 1) (x - 1)) := by
            unfold Hid
            rw [hf]
            obtain ⟨y, rfl⟩ : ∃ y, x = y + 1 := ⟨x - 1, by omega⟩
            rw [fbF, if_neg hbd]; rfl
          have g2 : ((s.extract 0 x).toList == (s.extract (k + 1 - x) (k + 1)).toList) = false := by
            rw [beqB, decide_eq_false_iff_not]; exact fun h => hbd ((ext_bd (by omega) (by omega)).1 h)
          clear hf hbd
          go_wp2_with fail
          go_quiet (fail)
          go_wp2_with fail
          go_roundw
          case rel => exact ⟨x - 1, m + nq, by omega, by go_num, HF.out, rfl⟩
          case measure => simp [intOf]; omega
    · obtain rfl : k = s.size := by omega
      have g1 : decide (((s.size + 1 : Nat) : Int) ≤ (s.size : Int)) = false := decide_eq_false (by omega)
      have HOWN := Lib.hid hown
      clear hown
      go_wp2_with fail
      go_ret
      exact ⟨_, rfl, HOWN.out, hb⟩
/-- Periods as ints. -/
def pI (s : List UInt8) (m : Nat) : List Int := (pers s m).map Int.ofNat
theorem pers_len (s : List UInt8) : ∀ m, (pers s m).length ≤ m
  | 0 => Nat.le_refl _
  | m + 1 => by
    have := pers_len s m
    rw [pers]; split
    · rw [List.length_append, List.length_singleton]; omega
    · omega
theorem pI_len (s : List UInt8) (m : Nat) : (pI s m).length ≤ m := by rw [pI, List.length_map]; exact pers_len s m
theorem pI_hit {s : List UInt8} {m : Nat} (h0 : 0 < m) (h : perB s m = true) : pI s (m + 1) = pI s m ++ [(m : Int)] := by
  rw [pI, pers, if_pos ⟨h0, h⟩, List.map_append]; rfl
theorem pI_miss {s : List UInt8} {m : Nat} (h : perB s m = false) : pI s (m + 1) = pI s m := by
  rw [pI, pers, if_neg (by rw [h]; simp)]; rfl
theorem eqS (x y : ByteArray) : (x.toList == y.toList) = decide (x = y) := beqB x y
theorem ext_per {s : ByteArray} {p : Nat} (hp : p ≤ s.size) : (s.extract p s.size = s.extract 0 (s.size - p)) ↔ perB (L s) p = true := by
  unfold perB
  rw [decide_eq_true_eq, L_len]
  have := ext_bd (s := s) (n := s.size) (k := s.size - p) (by omega) (Nat.le_refl _)
  rw [show s.size - (s.size - p) = p by omega] at this
  rw [← this]
  exact eq_comm
set_option maxRecDepth 100000 in
set_option maxHeartbeats 4000000 in
theorem period_any (s : ByteArray) (p : Nat) (h1 : 1 ≤ p) (h2 : p ≤ s.size) (hs : s.size ≤ 200) (w : World) :
    Calls Try.prog 86 #[.string s, .int .i64 p] w fun e w' => e = .returned (.bool (perB (L s) p)) ∧ Below w.heap.size w w' := by
  have g1 : decide ((1 : Int) ≤ (p : Int)) = true := decide_eq_true (by omega)
  have g2 : decide ((p : Int) ≤ (s.size : Int)) = true := decide_eq_true (by omega)
  have HG : Hid (((s.extract p s.size).toList == (s.extract 0 (s.size - p)).toList) = perB (L s) p) := by
    unfold Hid
    rw [eqS, Bool.eq_iff_iff, decide_eq_true_iff]
    exact ext_per h2
  have g3 := HG.out
  generalize perB (L s) p = b at *
  clear HG
  go_enter Try.func86, Try.ntmps86
  go_wp2_with fail
  go_quiet (fail)
  go_wp2_with fail
  go_ret
  exact ⟨rfl, below_drewN (Below.refl _ _) _⟩
set_option maxRecDepth 100000 in
set_option maxHeartbeats 4000000 in
theorem periodsOf_any (s : ByteArray) (hs : s.size ≤ 200) (w : World) :
    Calls Try.prog 28 #[.string s] w fun e w' => ∃ v, e = .returned v ∧ w'.ownsRow w.heap.size 3 1 v (pI (L s) (s.size + 1)).length (ints (pI (L s) (s.size + 1))) ∧ Below w.heap.size w w' := by
  obtain ⟨i0, hi0, hz0, hz1, hz2⟩ := info_parts info_int
  go_enter Try.func28, Try.ntmps28
  go_wp2_with fail
  go_loopw [3, 4] (fun o i wr => ∃ k : Nat, 1 ≤ k ∧ k ≤ s.size + 1 ∧ i = .int .i64 (k : Int) ∧ wr.ownsRow w.heap.size 3 1 o (pI (L s) k).length (ints (pI (L s) k)) ∧ Below w.heap.size w wr) (fun _ i _ => s.size + 1 - (intOf i).toNat)
  case atStart => exact ⟨1, Nat.le_refl _, by omega, rfl, World.ownsRow_nil _ _ _ _, Below.refl _ _⟩
  case round =>
    obtain ⟨k, hk1, hk, rfl, hown, hb⟩ := hrel
    by_cases hlt : k ≤ s.size
    · have HOWN := Lib.hid hown
      clear hown
      have HQ1 := Lib.hid (pI_hit (s := L s) (m := k) (by omega))
      have HQ0 := Lib.hid (pI_miss (s := L s) (m := k))
      have hql := pI_len (L s) k
      generalize pI (L s) k = q at *
      have g1 : decide ((k : Int) ≤ (s.size : Int)) = true := decide_eq_true (by omega)
      go_wp2_with fail
      refine (period_any s k hk1 hlt hs _).mono ?_
      rintro e w5 ⟨rfl, hb5⟩
      have hown := own_below HOWN.out hb5
      have hb5' := bthen hb hb5
      clear hb HOWN hb5
      cases hpb : perB (L s) k with
      | true =>
        have HQ := Lib.hid (HQ1.out hpb)
        clear hpb HQ1 HQ0
        go_wp2_with (at_builtin; go_must (refine wpList_appG rfl _ _ _ rfl w.heap.size 3 i0 _ 1 8 Try.underlying25 hi0 hz0 hz1 hz2 rfl (by omega) _ q.length (ints q) rfl (World.ownsRow.alloc (w := w5) hown _) ⟨w5.heap.size, 0, none⟩ 1 1 [.int .i64 ((k : Int))] rfl rfl (cell_one_new _ _ _) (by simp [Value.oneCell']) (by omega) (by omega) (by have := (hb5').size; simp at this ⊢; omega) ?_); intro v6 w6 hown6 hg6 hb6; have hb6' := ((hb5').alloc (hb5').size _).trans hb6)
        clear hg6 hb6
        go_roundw
        case rel =>
          refine ⟨k + 1, by omega, by omega, by go_num, ?_, hb6'⟩
          rw [HQ.out, ints_app, List.length_append]
          exact hown6
        case measure => simp [intOf]; omega
      | false =>
        have HQ := Lib.hid (HQ0.out hpb)
        have HO := Lib.hid hown
        clear hpb HQ1 HQ0 hown
        go_wp2_with fail
        go_roundw
        case rel => exact ⟨k + 1, by omega, by omega, by go_num, by rw [HQ.out]; exact HO.out, hb5'⟩
        case measure => simp [intOf]; omega
    · obtain rfl : k = s.size + 1 := by omega
      have g1 : decide (((s.size + 1 : Nat) : Int) ≤ (s.size : Int)) = false := decide_eq_false (by omega)
      have HOWN := Lib.hid hown
      clear hown
      go_wp2_with fail
      go_ret
      exact ⟨_, rfl, HOWN.out, hb⟩
set_option maxHeartbeats 1000000 in
theorem wordPeriods_large (s : ByteArray) (hs : 200 < s.size) (w : World) :
    Calls Try.prog 22 #[.string s] w fun e w' => e = .returned (.tuple #[.slice none 0 0, .int .i64 2]) ∧ Below w.heap.size w w' := by
  go_enter Try.func22, Try.ntmps22
  go_wp2_with fail
  refine (wordBorders_large s hs _).mono ?_
  rintro e w1 ⟨rfl, hb1⟩
  go_wp2_with fail
  go_ret2
  exact ⟨rfl, hb1⟩
set_option maxRecDepth 100000 in
set_option maxHeartbeats 4000000 in
theorem wordPeriods_any (s : ByteArray) (hs : s.size ≤ 200) (w : World) :
    Calls Try.prog 22 #[.string s] w fun e w' => ∃ v, e = .returned (.tuple #[v, .int .i64 0]) ∧ w'.ownsRow w.heap.size 3 1 v (pI (L s) (s.size + 1)).length (ints (pI (L s) (s.size + 1))) ∧ Below w.heap.size w w' := by
  obtain ⟨i0, hi0, hz0, hz1, hz2⟩ := info_parts info_int
  rcases Nat.eq_zero_or_pos s.size with h0 | h0
  · have he : s = ⟨#[]⟩ := by
      apply L_inj
      have h9 : L s = [] := List.eq_nil_of_length_eq_zero (by rw [L_len]; exact h0)
      rw [h9]; rfl
    subst he
    go_enter Try.func22, Try.ntmps22
    go_wp2_with fail
    refine (wordBorders_any _ hs _).mono ?_
    rintro e w1 ⟨g, rfl, hA, hb1⟩
    clear hA
    go_wp2_with fail
    go_ret2
    exact ⟨_, rfl, World.ownsRow_nil _ _ _ _, hb1⟩
  have hse : (s.toList.isEmpty) = false := by
    rw [ByteArray.toList_eq, List.isEmpty_eq_false_iff]
    intro h
    have := blen s
    rw [h] at this
    simp at this; omega
  have gse : (s.toList == []) = false := by
    rw [beq_eq_false_iff_ne]; intro h; rw [h] at hse; cases hse
  go_enter Try.func22, Try.ntmps22
  go_wp2_with fail
  refine (wordBorders_any s hs _).mono ?_
  rintro e w1 ⟨g, rfl, hA, hb1⟩
  have HA := Lib.hid hA
  clear hA
  have c0 := HA.out.at_ (k := s.size - 1) (by omega)
  rw [bI_at _ _ _ (by omega), show s.size - 1 + 1 = s.size by omega] at c0
  have hfl := fb_lt (L s) h0
  have HB0 := Lib.hid (fb_bd (L s) s.size)
  have HP0 : Hid (pI (L s) (s.size - fb (L s) s.size) = []) := by
    have h1 := pers_start (s := L s) (by rw [L_len]; exact h0)
    rw [L_len] at h1
    show (pers (L s) (s.size - fb (L s) s.size)).map Int.ofNat = []
    rw [h1]; rfl
  generalize hf0 : fb (L s) s.size = f0 at *
  clear hf0
  have hgz := hb1.size
  go_wp2_with fail
  go_loopw [6, 7] (fun o x wr => ∃ k : Nat, k < s.size ∧ x = .int .i64 (k : Int) ∧ Bd (L s) s.size k ∧ wr.ownsRow w1.heap.size 3 1 o (pI (L s) (s.size - k)).length (ints (pI (L s) (s.size - k))) ∧ Below w1.heap.size w1 wr) (fun _ x _ => (intOf x).toNat)
  case atStart => exact ⟨f0, hfl, rfl, HB0.out, by rw [HP0.out]; exact World.ownsRow_nil _ _ _ _, Below.refl _ _⟩
  case round =>
    clear c0 HB0 HP0
    obtain ⟨k, hk, rfl, hbd, hown, hb⟩ := hrel
    have HOWN := Lib.hid hown
    clear hown
    have hql := pI_len (L s) (s.size - k)
    by_cases hk0 : 0 < k
    · have g1 : decide ((0 : Int) < (k : Int)) = true := decide_eq_true (by omega)
      have hfk := fb_lt (L s) hk0
      have HQ : Hid (pI (L s) (s.size - fb (L s) k) = pI (L s) (s.size - k) ++ [((s.size - k : Nat) : Int)]) := by
        have := pers_step (s := L s) hk0 (by rw [L_len]; exact hk) (by rw [L_len]; exact hbd)
        rw [L_len] at this
        unfold Hid pI; rw [this, List.map_append]; rfl
      have HBD : Hid (Bd (L s) s.size (fb (L s) k)) := hbd.up (fb_bd _ _)
      clear hbd
      generalize pI (L s) (s.size - k) = q at *
      have hvv : ((s.size - k : Nat) : Int) = (s.size : Int) - (k : Int) := by omega
      rw [hvv] at HQ
      clear hvv
      have HC1 : Hid (∀ w' : World, Below w1.heap.size w1 w' → w'.cell? ⟨g, k - 1, none⟩ = some (.int .i64 (fb (L s) k : Nat))) := fun w' hb' => by
        have c1 := (HA.out.below hb').at_ (k := k - 1) (by omega)
        rw [bI_at _ _ _ (by omega), show k - 1 + 1 = k by omega] at c1
        exact c1
      generalize fb (L s) k = f1 at *
      go_wp2_with (at_builtin; go_must (refine wpList_appG rfl _ _ _ rfl w1.heap.size 3 i0 _ 1 8 Try.underlying25 hi0 hz0 hz1 hz2 rfl (by omega) _ q.length (ints q) rfl (World.ownsRow.alloc (w := wr) HOWN.out _) ⟨wr.heap.size, 0, none⟩ 1 1 [.int .i64 ((s.size : Int) - (k : Int))] rfl rfl (cell_one_new _ _ _) (by simp [Value.oneCell']) (by omega) (by omega) (by have := (hb).size; simp at this ⊢; omega) ?_); intro v6 w6 hown6 hg6 hb6; have hb6' := ((hb).alloc (hb).size _).trans hb6; have c1 := HC1.out _ hb6')
      clear hg6 hb6
      go_roundw
      case rel =>
        refine ⟨f1, by omega, rfl, HBD.out, ?_, hb6'⟩
        rw [HQ.out, ints_app, List.length_append]
        exact hown6
      case measure => simp [intOf]; omega
    · obtain rfl : k = 0 := by omega
      have g1 : decide ((0 : Int) < ((0 : Nat) : Int)) = false := by decide
      have HQ : Hid (pI (L s) (s.size + 1) = pI (L s) (s.size - 0) ++ [(s.size : Int)]) := by
        have := pers_end (s := L s) (by rw [L_len]; exact h0)
        rw [L_len] at this
        unfold Hid pI; rw [this, List.map_append]; rfl
      clear hbd
      generalize pI (L s) (s.size - 0) = q at *
      go_wp2_with (at_builtin; go_must (refine wpList_appG rfl _ _ _ rfl w1.heap.size 3 i0 _ 1 8 Try.underlying25 hi0 hz0 hz1 hz2 rfl (by omega) _ q.length (ints q) rfl (World.ownsRow.alloc (w := wr) HOWN.out _) ⟨wr.heap.size, 0, none⟩ 1 1 [.int .i64 ((s.size : Int))] rfl rfl (cell_one_new _ _ _) (by simp [Value.oneCell']) (by omega) (by omega) (by have := (hb).size; simp at this ⊢; omega) ?_); intro v6 w6 hown6 hg6 hb6; have hb6' := ((hb).alloc (hb).size _).trans hb6)
      clear hg6 hb6
      go_ret2
      refine ⟨_, rfl, ?_, hb1.trans (hb6'.mono hgz)⟩
      rw [HQ.out, ints_app, List.length_append]
      exact own_lower hown6 hgz
end Go.Proofs.Ytolnhplgaolieaa
