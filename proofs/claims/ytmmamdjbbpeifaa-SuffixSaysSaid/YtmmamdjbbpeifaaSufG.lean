/- suffix.Common. -/
import Derived.Test.YtmmamdjbbpeifaaSufF
import Derived.Test.YtmmamdjbbpeifaaSuf1
namespace Go.Proofs.Ytmmamdjbbpeifaa
open Go.RowKit
def rkTo (s : List UInt8) (k : Nat) : List Int := (List.range s.length).map fun i => if rkS s i < k then (rkS s i : Int) else 0
def outTo (s : List UInt8) (i : Nat) : List Int := (List.range s.length).map fun p => if oS s p < i then (lcpA s p : Int) else 0
theorem map_at (f : Nat → Int) (n k : Nat) (h : k < n) : ((List.range n).map f).getD k 0 = f k := by
  rw [List.getD_eq_getElem?_getD, List.getElem?_map, List.getElem?_range h]; rfl
theorem rkTo_zero (s : List UInt8) : rkTo s 0 = List.replicate s.length 0 := by
  apply List.ext_getElem
  · simp [rkTo]
  · intro j h1 h2; simp [rkTo]
theorem outTo_zero (s : List UInt8) : outTo s 0 = List.replicate s.length 0 := by
  apply List.ext_getElem
  · simp [outTo]
  · intro j h1 h2; simp [outTo]
theorem rkTo_set {s : List UInt8} {k : Nat} (h : k < s.length) : (rkTo s k).set (oS s k) (k : Int) = rkTo s (k + 1) := by
  apply List.ext_getElem
  · simp [rkTo]
  · intro j h1 h2
    rw [List.getElem_set]
    simp only [rkTo, List.getElem_map, List.getElem_range]
    have hj : j < s.length := by simpa [rkTo] using h2
    by_cases e : oS s k = j
    · have : rkS s j = k := by rw [← e]; exact rk_oS h
      rw [if_pos e, this, if_pos (by omega)]
    · have : rkS s j ≠ k := fun e2 => e (by rw [← e2]; exact oS_rk hj)
      rw [if_neg e]
      by_cases h3 : rkS s j < k
      · rw [if_pos h3, if_pos (by omega)]
      · rw [if_neg h3, if_neg (by omega)]
theorem outTo_set {s : List UInt8} {i : Nat} (h : i < s.length) : (outTo s i).set (rkS s i) (lcpA s (rkS s i) : Int) = outTo s (i + 1) := by
  apply List.ext_getElem
  · simp [outTo]
  · intro p h1 h2
    rw [List.getElem_set]
    simp only [outTo, List.getElem_map, List.getElem_range]
    have hp : p < s.length := by simpa [outTo] using h2
    by_cases e : rkS s i = p
    · have : oS s p = i := by rw [← e]; exact oS_rk h
      rw [if_pos e, this, if_pos (by omega), e]
    · have : oS s p ≠ i := fun e2 => e (by rw [← e2]; exact rk_oS hp)
      rw [if_neg e]
      by_cases h3 : oS s p < i
      · rw [if_pos h3, if_pos (by omega)]
      · rw [if_neg h3, if_neg (by omega)]
theorem outTo_skip {s : List UInt8} {i : Nat} (h : i < s.length) (h0 : rkS s i = 0) : outTo s i = outTo s (i + 1) := by
  rw [← outTo_set h]
  apply List.ext_getElem
  · simp
  · intro p h1 h2
    rw [List.getElem_set]
    by_cases e : rkS s i = p
    · have ho : oS s p = i := by rw [← e]; exact oS_rk h
      rw [if_pos e]
      simp only [outTo, List.getElem_map, List.getElem_range]
      rw [if_neg (by omega), h0]
      rfl
    · rw [if_neg e]
theorem rkTo_at {s : List UInt8} {i : Nat} (h : i < s.length) : (rkTo s s.length).getD i 0 = (rkS s i : Int) := by
  rw [rkTo, map_at _ _ _ h, if_pos (rkS_lt h)]
theorem getD_drop (s : List UInt8) (k j : Nat) : (s.drop k).getD j 0 = s.getD (k + j) 0 := by
  rw [List.getD_eq_getElem?_getD, List.getElem?_drop, ← List.getD_eq_getElem?_getD]
def comI (s : List UInt8) : List Int := (List.range s.length).map fun p => (lcpA s p : Int)
theorem outTo_all (s : List UInt8) : outTo s s.length = comI s := by
  apply List.map_congr_left
  intro p hp
  rw [List.mem_range] at hp
  rw [if_pos (oS_lt hp)]
theorem comI_at (s : List UInt8) {k : Nat} (h : k < s.length) : (comI s).getD k 0 = (lcpA s k : Int) := map_at _ _ _ h
set_option maxHeartbeats 1000000 in
theorem order_large (s : ByteArray) (hs : 200 < s.size) (w : World) :
    Calls Try.prog 14 #[.string s] w fun e w' => e = .returned (.tuple #[.slice none 0 0, .int .i64 2]) ∧ Below w.heap.size w w' := by
  have HE : Hid (longErr s.size = 2) := by unfold Hid longErr; rw [if_pos hs]
  go_enter Try.func14, Try.ntmps14
  go_wp2_with fail
  refine (wordCheck_any s _).mono ?_
  rintro e w1 ⟨rfl, hb1⟩
  rw [HE.out]
  have hb1' : Below w.heap.size w w1 := bthen ((Below.refl _ _).alloc (Nat.le_refl _) _) hb1
  go_wp2_with fail
  go_ret2
  exact ⟨rfl, hb1'⟩
set_option maxHeartbeats 1000000 in
theorem common_large (s : ByteArray) (hs : 200 < s.size) (w : World) :
    Calls Try.prog 15 #[.string s] w fun e w' => e = .returned (.tuple #[.slice none 0 0, .int .i64 2]) ∧ Below w.heap.size w w' := by
  go_enter Try.func15, Try.ntmps15
  go_wp2_with fail
  refine (order_large s hs _).mono ?_
  rintro e w1 ⟨rfl, hb1⟩
  go_wp2_with fail
  go_ret2
  exact ⟨rfl, hb1⟩
set_option maxRecDepth 100000 in
set_option maxHeartbeats 8000000 in
theorem common_any (s : ByteArray) (hs : s.size ≤ 200) (w : World) :
    Calls Try.prog 15 #[.string s] w fun e w' => ∃ g, e = .returned (.tuple #[.slice (some ⟨g, 0, none⟩) s.size s.size, .int .i64 0]) ∧ ArrI w' w.heap.size g s.size (comI (L s)) ∧ Below w.heap.size w w' := by
  obtain ⟨i0, hi0, hz0, hz1, hz2⟩ := info_parts info_int
  have HZ : Hid ((L s).length = s.size) := L_len s
  go_enter Try.func15, Try.ntmps15
  go_wp2_with fail
  refine (order_any s hs _).mono ?_
  rintro e w1 ⟨go, rfl, hord, hb1⟩
  have HORD := Lib.hid hord
  clear hord
  go_wp2_with (at_make; go_must (refine wpList_make_full _ rfl _ _ _ rfl w1.heap.size 3 i0 _ 1 Try.underlying22 hi0 hz0 hz1 .i64 .i64 (s.size : Int) (s.size : Int) s.size rfl rfl (by omega) (by omega) (by rw [hz2]; omega) (by unfold maxLen; omega) (Nat.le_refl _) ?_); intro w2 hown2 hg2)
  have hb2 : Below w1.heap.size w1 w2 := (Below.refl _ _).grown hg2 (Nat.le_refl _) (fun _ h => by cases h)
  have hown2 : ArrI w2 w1.heap.size w1.heap.size s.size (List.replicate s.size 0) := by
    rw [made_ints] at hown2; exact hown2
  clear hg2
  obtain ⟨gr, hgr⟩ : ∃ gr, w1.heap.size = gr := ⟨_, rfl⟩
  have hown2 : ArrI w2 w1.heap.size gr s.size (rkTo (L s) 0) := by rw [← hgr, rkTo_zero, HZ.out]; exact hown2
  rw [hgr]
  have HGR := Lib.hid hgr
  clear hgr
  go_loopw [26] (fun iv wr => ∃ k : Nat, k ≤ s.size ∧ iv = .int .i64 (k : Int) ∧ ArrI wr w1.heap.size gr s.size (rkTo (L s) k) ∧ Below w1.heap.size w1 wr) (fun iv _ => s.size - (intOf iv).toNat)
  case atStart => exact ⟨0, Nat.zero_le _, rfl, hown2, hb2⟩
  case round =>
    clear hown2 hb2
    obtain ⟨k, hk, rfl, hrow, hb⟩ := hrel
    have hgl := hrow.lt
    by_cases hlt : k < s.size
    · have g1 : decide ((k : Int) < (s.size : Int)) = true := decide_eq_true (by omega)
      have g1' : decide (k < s.size) = true := decide_eq_true hlt
      have co := (HORD.out.below hb).at_ (k := k) hlt
      rw [ordI_at _ (by rw [HZ.out]; exact hlt)] at co
      have hol := oS_lt (s := L s) (k := k) (by rw [HZ.out]; exact hlt)
      rw [HZ.out] at hol
      have HN : Hid ((rkTo (L s) k).set (oS (L s) k) (k : Int) = rkTo (L s) (k + 1)) := rkTo_set (by rw [HZ.out]; exact hlt)
      generalize oS (L s) k = x at *
      have c0 := hrow.at_ (k := x) hol
      have f0 := hrow.free x
      have hln := hrow.len
      have HROW := Lib.hid hrow
      clear hrow
      generalize (rkTo (L s) k).getD x 0 = u at *
      go_wp2_with fail
      refine ⟨⟨k + 1, by omega, by go_num, ?_, hb.setCell (p := ⟨gr, x, none⟩) hgl.1 _⟩, by simp [intOf]; omega⟩
      rw [← HN.out]
      exact HROW.out.set_ x _
    · obtain rfl : k = s.size := by omega
      have g1 : decide ((s.size : Int) < (s.size : Int)) = false := decide_eq_false (by omega)
      have g1' : decide (s.size < s.size) = false := decide_eq_false hlt
      have HRK := Lib.hid hrow
      clear hrow
      obtain ⟨wk, hwk⟩ : ∃ wk : World, wk = wr := ⟨_, rfl⟩
      subst hwk
      go_wp2_with (at_make; go_must (refine wpList_make_full _ rfl _ _ _ rfl wk.heap.size 3 i0 _ 1 Try.underlying22 hi0 hz0 hz1 .i64 .i64 (s.size : Int) (s.size : Int) s.size rfl rfl (by omega) (by omega) (by rw [hz2]; omega) (by unfold maxLen; omega) (Nat.le_refl _) ?_); intro w3 hown3 hg3)
      have hb3 : Below wk.heap.size wk w3 := (Below.refl _ _).grown hg3 (Nat.le_refl _) (fun _ h => by cases h)
      have hown3 : ArrI w3 wk.heap.size wk.heap.size s.size (List.replicate s.size 0) := by
        rw [made_ints] at hown3; exact hown3
      clear hg3
      obtain ⟨g3, hg3⟩ : ∃ g3, wk.heap.size = g3 := ⟨_, rfl⟩
      have hown3 : ArrI w3 wk.heap.size g3 s.size (outTo (L s) 0) := by rw [← hg3, outTo_zero, HZ.out]; exact hown3
      rw [hg3]
      clear hg3
      have hzr : w1.heap.size ≤ wk.heap.size := hb.size
      have HRK2 : Hid (ArrI wk w1.heap.size gr s.size (rkTo (L s) (L s).length)) := by rw [HZ.out]; exact HRK.out
      clear HRK
      go_loopw [41, 10] (fun iv hv wq => ∃ i h : Nat, i ≤ s.size ∧ iv = .int .i64 (i : Int) ∧ hv = .int .i64 (h : Int) ∧ h ≤ s.size ∧ Hid (i < s.size → rkS (L s) i ≠ 0 → h ≤ lcpA (L s) (rkS (L s) i)) ∧ ArrI wq wk.heap.size g3 s.size (outTo (L s) i) ∧ Below wk.heap.size wk wq) (fun iv _ _ => s.size - (intOf iv).toNat)
      case atStart => exact ⟨0, 0, Nat.zero_le _, rfl, rfl, Nat.zero_le _, Lib.hid (fun _ _ => Nat.zero_le _), hown3, hb3⟩
      case round =>
        clear hown3 hb3
        obtain ⟨i, h, hi, rfl, rfl, hh, HK, hrow, hbq⟩ := hrel
        have hgl := hrow.lt
        by_cases hlt : i < s.size
        · have g1 : decide ((i : Int) < (s.size : Int)) = true := decide_eq_true (by omega)
          have g1' : decide (i < s.size) = true := decide_eq_true hlt
          have cr := (HRK2.out.below hbq).at_ (k := i) hlt
          rw [rkTo_at (by rw [HZ.out]; exact hlt)] at cr
          have hrl := rkS_lt (s := L s) (i := i) (by rw [HZ.out]; exact hlt)
          have horr := oS_rk (s := L s) (i := i) (by rw [HZ.out]; exact hlt)
          rw [HZ.out] at hrl
          have HNEXT := Lib.hid (outTo_set (s := L s) (i := i) (by rw [HZ.out]; exact hlt))
          have HSKIP := Lib.hid (outTo_skip (s := L s) (i := i) (by rw [HZ.out]; exact hlt))
          have HKAS := Lib.hid (fun (h1 : i + 1 < s.size) => kasai (s := L s) (i := i) (by rw [HZ.out]; exact h1))
          cases hr : rkS (L s) i with
          | zero =>
            rw [hr] at cr
            have cr : wr.cell? ⟨gr, i, none⟩ = some (.int .i64 0) := cr
            have HN := Lib.hid (HSKIP.out hr)
            clear HSKIP HNEXT HK horr hrl HKAS hr
            go_wp2_with fail
            go_roundw
            case rel => exact ⟨i + 1, 0, by omega, by go_num, rfl, Nat.zero_le _, Lib.hid (fun _ _ => Nat.zero_le _), by rw [← HN.out]; exact hrow, hbq⟩
            case measure => simp [intOf]; omega
          | succ r =>
            rw [hr] at cr hrl horr
            rw [hr] at HK HNEXT HKAS
            have cr : wr.cell? ⟨gr, i, none⟩ = some (.int .i64 ((r : Int) + 1)) := by rw [cr]; rfl
            have g2 : (((r : Int) + 1) == 0) = false := by rw [beq_eq_false_iff_ne]; omega
            have co := (HORD.out.below (hb.trans (hbq.mono hzr))).at_ (k := r) (by omega)
            rw [ordI_at _ (by rw [HZ.out]; omega)] at co
            have hol := oS_lt (s := L s) (k := r) (by rw [HZ.out]; omega)
            rw [HZ.out] at hol
            have hA : lcpA (L s) (r + 1) = lcpL ((L s).drop (oS (L s) r)) ((L s).drop i) := by
              rw [lcpA_pos (by omega), Nat.add_sub_cancel]
              unfold sufA
              rw [horr]
            have hk0 := HK.out hlt (by omega)
            rw [hA] at hk0
            have hc1 := lcpL_le ((L s).drop (oS (L s) r)) ((L s).drop i)
            rw [List.length_drop, List.length_drop, HZ.out] at hc1
            have HT0 := Lib.hid (take_less (lcpL_take ((L s).drop (oS (L s) r)) ((L s).drop i)) hk0)
            obtain ⟨k, hk⟩ : ∃ k, oS (L s) r = k := ⟨_, rfl⟩
            rw [hk] at co hol hA hc1 HT0 hk0
            have HA := Lib.hid hA
            clear hA hk hr horr HSKIP HK
            have hki : k + h ≤ s.size ∧ i + h ≤ s.size := by omega
            obtain ⟨hkh, hih⟩ := hki
            clear hc1 hk0
            have cu := hrow.at_ (k := r + 1) (by omega)
            have fu := hrow.free (r + 1)
            have hln := hrow.len
            generalize (outTo (L s) i).getD (r + 1) 0 = u at cu
            have HROW := Lib.hid hrow
            clear hrow
            obtain ⟨wo, hwo⟩ : ∃ wo : World, wo = wr := ⟨_, rfl⟩
            subst hwo
            go_wp2_with fail
            go_loopw [10] (fun hv wz => ∃ h' m : Nat, hv = .int .i64 (h' : Int) ∧ k + h' ≤ s.size ∧ i + h' ≤ s.size ∧ Hid (((L s).drop k).take h' = ((L s).drop i).take h') ∧ wz = wo.drewN m) (fun hv _ => s.size - (intOf hv).toNat)
            case atStart => exact ⟨h, 0, rfl, hkh, hih, HT0, rfl⟩
            case round =>
              clear HT0 hkh hih
              obtain ⟨h', m, rfl, hkh, hih, HT, rfl⟩ := hrel
              by_cases hi3 : i + h' < s.size
              · have g3 : decide ((i : Int) + (h' : Int) < (s.size : Int)) = true := decide_eq_true (by omega)
                by_cases hk3 : k + h' < s.size
                · have g4 : decide ((k : Int) + (h' : Int) < (s.size : Int)) = true := decide_eq_true (by omega)
                  obtain ⟨a, ha⟩ : ∃ a, a = i + h' := ⟨_, rfl⟩
                  obtain ⟨b, hb'⟩ : ∃ b, b = k + h' := ⟨_, rfl⟩
                  have has : a < s.size := by omega
                  have hbs : b < s.size := by omega
                  have e1 := getB s a has
                  have e2 := getB s b hbs
                  have gx : (i : Int) + (h' : Int) = (a : Int) := by omega
                  have gy : (k : Int) + (h' : Int) = (b : Int) := by omega
                  have g3' : decide ((a : Int) < (s.size : Int)) = true := decide_eq_true (by omega)
                  have g4' : decide ((b : Int) < (s.size : Int)) = true := decide_eq_true (by omega)
                  have HAB := Lib.hid (And.intro ha hb')
                  clear ha hb'
                  by_cases he : s[a] = s[b]
                  · have g5 : ((s[a].toNat : Int) == (s[b].toNat : Int)) = true := by rw [he]; exact beq_self_eq_true _
                    have HT2 : Hid (((L s).drop k).take (h' + 1) = ((L s).drop i).take (h' + 1)) := take_more HT.out (by rw [List.length_drop, HZ.out]; omega) (by rw [List.length_drop, HZ.out]; omega) (by rw [getD_drop, getD_drop, ← HAB.out.1, ← HAB.out.2, ← e1, ← e2, he])
                    clear e1 e2 he
                    go_wp2_with fail
                    go_quiet (fail)
                    go_wp2_with fail
                    go_roundw
                    case rel => exact ⟨h' + 1, _, by go_num, by omega, by omega, HT2, rfl⟩
                    case measure => simp [intOf]; omega
                  · have g5 : ((s[a].toNat : Int) == (s[b].toNat : Int)) = false := by
                      rw [beq_eq_false_iff_ne]; intro h; exact he (UInt8.toNat_inj.1 (by omega))
                    have HS : Hid (((L s).drop k).getD h' 0 ≠ ((L s).drop i).getD h' 0) := by
                      unfold Hid; rw [getD_drop, getD_drop, ← HAB.out.1, ← HAB.out.2, ← e1, ← e2]; exact fun h => he h.symm
                    clear e1 e2 he
                    have HE : Hid (h' = lcpA (L s) (r + 1)) := by
                      unfold Hid
                      rw [HA.out]
                      exact lcpL_is (by rw [List.length_drop, HZ.out]; omega) (by rw [List.length_drop, HZ.out]; omega) HT.out (.inr (.inr HS.out))
                    go_wp2_with fail
                    go_quiet (fail)
                    go_wp2_with fail
                    refine ⟨⟨i + 1, h' - 1, by omega, by go_num, congrArg (Value.int .i64) (by omega), by omega, Lib.hid (fun h1 h2 => ?_), ?_, (below_drewN hbq _).setCell (p := ⟨_, r + 1, none⟩) hgl.1 _⟩, by simp [intOf]; omega⟩
                    · rcases Nat.lt_or_ge h' 2 with h3 | h3
                      · omega
                      · have := (HKAS.out h1 (by omega) (by rw [← HE.out]; exact h3)).2
                        rw [← HE.out] at this
                        exact this
                    · rw [← HNEXT.out, ← HE.out]
                      exact (HROW.out.drewN _).set_ (r + 1) _
                · have g4 : decide ((k : Int) + (h' : Int) < (s.size : Int)) = false := decide_eq_false (by omega)
                  have HE : Hid (h' = lcpA (L s) (r + 1)) := by
                    unfold Hid
                    rw [HA.out]
                    exact lcpL_is (by rw [List.length_drop, HZ.out]; omega) (by rw [List.length_drop, HZ.out]; omega) HT.out (.inl (by rw [List.length_drop, HZ.out]; omega))
                  go_wp2_with fail
                  go_quiet (fail)
                  go_wp2_with fail
                  refine ⟨⟨i + 1, h' - 1, by omega, by go_num, congrArg (Value.int .i64) (by omega), by omega, Lib.hid (fun h1 h2 => ?_), ?_, (below_drewN hbq _).setCell (p := ⟨_, r + 1, none⟩) hgl.1 _⟩, by simp [intOf]; omega⟩
                  · rcases Nat.lt_or_ge h' 2 with h3 | h3
                    · omega
                    · have := (HKAS.out h1 (by omega) (by rw [← HE.out]; exact h3)).2
                      rw [← HE.out] at this
                      exact this
                  · rw [← HNEXT.out, ← HE.out]
                    exact (HROW.out.drewN _).set_ (r + 1) _
              · have g3 : decide ((i : Int) + (h' : Int) < (s.size : Int)) = false := decide_eq_false (by omega)
                have HE : Hid (h' = lcpA (L s) (r + 1)) := by
                  unfold Hid
                  rw [HA.out]
                  exact lcpL_is (by rw [List.length_drop, HZ.out]; omega) (by rw [List.length_drop, HZ.out]; omega) HT.out (.inr (.inl (by rw [List.length_drop, HZ.out]; omega)))
                go_wp2_with fail
                go_quiet (fail)
                go_wp2_with fail
                refine ⟨⟨i + 1, h' - 1, by omega, by go_num, congrArg (Value.int .i64) (by omega), by omega, Lib.hid (fun h1 h2 => ?_), ?_, (below_drewN hbq _).setCell (p := ⟨_, r + 1, none⟩) hgl.1 _⟩, by simp [intOf]; omega⟩
                · rcases Nat.lt_or_ge h' 2 with h3 | h3
                  · omega
                  · have := (HKAS.out h1 (by omega) (by rw [← HE.out]; exact h3)).2
                    rw [← HE.out] at this
                    exact this
                · rw [← HNEXT.out, ← HE.out]
                  exact (HROW.out.drewN _).set_ (r + 1) _
        · obtain rfl : i = s.size := by omega
          have g1 : decide ((s.size : Int) < (s.size : Int)) = false := decide_eq_false (by omega)
          have g1' : decide (s.size < s.size) = false := decide_eq_false hlt
          have HO : Hid (outTo (L s) s.size = comI (L s)) := by
            have := outTo_all (L s)
            rw [HZ.out] at this
            exact this
          go_wp2_with fail
          go_ret2
          refine ⟨g3, rfl, ?_, bthen (bthen hb1 hb) hbq⟩
          rw [← HO.out]
          exact own_lower hrow (by have := hb1.size; omega)
end Go.Proofs.Ytmmamdjbbpeifaa
